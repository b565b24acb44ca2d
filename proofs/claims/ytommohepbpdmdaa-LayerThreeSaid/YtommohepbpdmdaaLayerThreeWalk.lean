/- The law LayerThree walked. -/
import Derived.Test.YtommohepbpdmdaaLayerThreeTools
namespace Go.Proofs.Ytommohepbpdmdaa
open Go.RowKit
set_option maxHeartbeats 3200000
set_option maxRecDepth 100000

theorem many_ok : setErr (manyL 2) = none := by decide +kernel
theorem many_same : lyErr ⟨manyL 1, manyL 1⟩ = some 7 := by decide +kernel
theorem setOk_nil : SetOk [] := (setErr_none_iff _).1 (by decide +kernel)
theorem setOk_two : SetOk (manyL 2) := (setErr_none_iff _).1 many_ok
theorem ly_to : lyOf [] (manyL 2) = ⟨manyL 2, []⟩ := by decide +kernel
theorem ly_from : lyOf (manyL 2) [] = ⟨[], manyL 2⟩ := by decide +kernel

theorem many_own (n : Nat) (hn : n ≤ 600) (w0 w : World) (h0 : Ext w0 w) :
    Calls Try.prog 18 #[.int .i64 n] w fun e w' => ∃ p c, e = .returned (.slice p n c) ∧ Reads encTr w' (.slice p n c) (manyL n) ∧ Ext w w' ∧ Ext w0 w' :=
  (many_any n hn w).mono fun e w' ⟨v', h1, h2, h3⟩ => by
    have h4 := h2.reads
    obtain ⟨p, c, rfl⟩ := h2.slice
    rw [manyL_len] at h1 h4
    exact ⟨p, c, h1, h4, h3, h0.trans h3⟩

/-- what a call of Then answers -/
def ThenTo (x y z : Ly) : Prop := ∀ W xa xt ya yt, Reads encTr W xa x.add → Reads encTr W xt x.take → Reads encTr W ya y.add → Reads encTr W yt y.take →
  Calls Try.prog 28 #[.agg #[xa, xt], .agg #[ya, yt]] W fun e w' => ∃ p c q d, e = .returned (.tuple #[.agg #[.slice p z.add.length c, .slice q z.take.length d], .nilIface]) ∧
    Reads encTr w' (.slice p z.add.length c) z.add ∧ Reads encTr w' (.slice q z.take.length d) z.take ∧ Ext W w'
theorem thenTo_of {a b c : List Tr} (ha : SetOk a) (hb : SetOk b) (hc : SetOk c) : ThenTo (lyOf a b) (lyOf b c) (lyOf a c) := by
  intro W xa xt ya yt h1 h2 h3 h4
  have h := then_ok xa xt ya yt _ _ W h1 h2 h3 h4 (thenErr_of ha hb hc)
  rw [lyBoth_of ha hc] at h
  refine h.mono fun e w' ⟨u, v, g1, g2, g3, g4⟩ => ?_
  have r2 := g2.reads
  have r3 := g3.reads
  obtain ⟨p, c, rfl⟩ := g2.slice
  obtain ⟨q, d, rfl⟩ := g3.slice
  exact ⟨p, c, q, d, g1, r2, r3, g4⟩
def BetTo (w : World) (va vb : Value) (z : Ly) : Prop := ∀ W, Ext w W →
  Calls Try.prog 30 #[va, vb] W fun e w' => ∃ p c q d, e = .returned (.tuple #[.agg #[.slice p z.add.length c, .slice q z.take.length d], .nilIface]) ∧
    Reads encTr w' (.slice p z.add.length c) z.add ∧ Reads encTr w' (.slice q z.take.length d) z.take ∧ Ext W w'
theorem betTo_of {w : World} {va vb : Value} {a b : List Tr} (ha : Reads encTr w va a) (hb : Reads encTr w vb b) (h : betweenErr a b = none) : BetTo w va vb (lyOf a b) := fun W hW =>
  (between_ok va vb a b W (ha.ext hW) (hb.ext hW) h).mono fun e w' ⟨u, v, g1, g2, g3, g4⟩ => by
    have r2 := g2.reads
    have r3 := g3.reads
    obtain ⟨p, c, rfl⟩ := g2.slice
    obtain ⟨q, d, rfl⟩ := g3.slice
    exact ⟨p, c, q, d, g1, r2, r3, g4⟩
/-- Between, whatever it is given -/
def BetAny (w : World) (va vb : Value) (ev : Value) : Prop := ∀ W, Ext w W →
  Calls Try.prog 30 #[va, vb] W fun e w' => ∃ p n c q m d, e = .returned (.tuple #[.agg #[.slice p n c, .slice q m d], ev]) ∧ Ext w w'
theorem betAny_of {w : World} {va vb : Value} {a b : List Tr} (ha : Reads encTr w va a) (hb : Reads encTr w vb b) : BetAny w va vb (errV (betweenErr a b)) := fun W hW => by
  cases h : betweenErr a b with
  | some n => exact (between_bad va vb a b W (ha.ext hW) (hb.ext hW) h).mono fun e w' ⟨g1, g2⟩ => ⟨none, 0, 0, none, 0, 0, g1, hW.trans g2⟩
  | none => exact (betTo_of ha hb h W hW).mono fun e w' ⟨p, c, q, d, g1, _, _, g4⟩ => ⟨p, _, c, q, _, d, g1, hW.trans g4⟩

theorem then_zero (W : World) (va vt : Value) (ha : Reads encTr W va (manyL 2)) (ht : Reads encTr W vt (manyL 2)) :
    Calls Try.prog 28 #[.agg #[va, .slice none 0 0], .agg #[.slice none 0 0, vt]] W fun e w' => ∃ p c q d, e = .returned (.tuple #[.agg #[.slice p 0 c, .slice q 0 d], .nilIface]) ∧ Ext W w' := by
  have h := thenTo_of setOk_nil setOk_two setOk_nil W va (.slice none 0 0) (.slice none 0 0) vt
  rw [ly_to, ly_from] at h
  exact (h ha (OwnSet.nil W.heap.size W).reads (OwnSet.nil W.heap.size W).reads ht).mono fun e w' ⟨p, c, q, d, g1, _, _, g4⟩ => ⟨p, c, q, d, g1, g4⟩
theorem check_seven (W : World) (va vt : Value) (ha : Reads encTr W va (manyL 1)) (ht : Reads encTr W vt (manyL 1)) :
    Calls Try.prog 29 #[.agg #[va, vt]] W fun e w' => e = .returned (eV 7) ∧ Ext W w' := by
  have h := layerCheck_any va vt ⟨manyL 1, manyL 1⟩ W ha ht
  rw [many_same] at h
  exact h
theorem sameLayer_same (xa xt ya yt : Value) (x : Ly) (w : World) (h1 : Reads encTr w xa x.add) (h2 : Reads encTr w xt x.take) (h3 : Reads encTr w ya x.add) (h4 : Reads encTr w yt x.take) :
    Calls Try.prog 31 #[.agg #[xa, xt], .agg #[ya, yt]] w fun e w' => e = .returned (.bool true) ∧ Ext w w' := by
  have h := sameLayer_any xa xt ya yt x x w h1 h2 h3 h4
  simp only [decide_true, Bool.and_self] at h
  exact h

theorem layerThree_any {w : World} (va : Value) (a : List Tr) (ha : Reads encTr w va a) {q1 : Prop} (_ : q1) (vb : Value) (b : List Tr) (hb : Reads encTr w vb b) {q2 : Prop} (_ : q2)
    (vc : Value) (c : List Tr) (hc : Reads encTr w vc c) {q3 : Prop} (_ : q3) (vd : Value) (d : List Tr) (hd : Reads encTr w vd d) {q4 : Prop} (_ : q4) (_ : World) :
    Calls Try.prog 9 #[va, vb, vc, vd] w fun e w' => e = .returned (.bool true) ∧ Ext w w' := by
  have hm2 : ∀ W, Ext w W → Calls Try.prog 18 #[.int .i64 2] W fun e w' => ∃ p c, e = .returned (.slice p 2 c) ∧ Reads encTr w' (.slice p 2 c) (manyL 2) ∧ Ext W w' ∧ Ext w w' := fun W h => many_own 2 (by decide) w W h
  have hm1 : ∀ W, Ext w W → Calls Try.prog 18 #[.int .i64 1] W fun e w' => ∃ p c, e = .returned (.slice p 1 c) ∧ Reads encTr w' (.slice p 1 c) (manyL 1) ∧ Ext W w' ∧ Ext w w' := fun W h => many_own 1 (by decide) w W h
  have HM := Lib.hid (And.intro hm2 hm1)
  have HR := Lib.hid (And.intro ha (And.intro hb (And.intro hc hd)))
  have hx0 := Ext.refl w
  clear hm2 hm1 ha hb hc hd
  go_enter Try.func9, Try.ntmps9
  go_upto_region 2 with (first | (go_at_call 18; with_reducible refine (HM.out.1 _ hx0).mono ?_; rintro e w1 ⟨p1, c1, rfl, o1, _, hx1⟩; clear hx0) | (go_at_call 18; with_reducible refine (HM.out.1 _ hx1).mono ?_; rintro e w2 ⟨p2, c2, rfl, o2, g2, hx2⟩; replace o1 := o1.ext g2) | (go_at_call 28; refine (then_zero _ _ _ o1 o2).mono ?_; rintro e w3 ⟨p3, c3, q3, d3, rfl, hy⟩; have hx3 := (hx2.trans hy).alloc (.cells #[.slice p3 0 c3, .slice q3 0 d3] 75); have k3 := alloc_heap_new w3 (.cells #[.slice p3 0 c3, .slice q3 0 d3] 75)))
  generalize hwb : World.alloc w3 _ = wb at hx3 k3 ⊢
  clear hwb o1 o2 g2 hx1 hx2 hy
  have A := cells_at k3
  go_upto_region 4 with (first | (go_at_call 18; with_reducible refine (HM.out.2 _ hx3).mono ?_; rintro e w4 ⟨p4, c4, rfl, o4, _, hx4⟩; clear hx3) | (go_at_call 18; with_reducible refine (HM.out.2 _ hx4).mono ?_; rintro e w5 ⟨p5, c5, rfl, o5, g5, hx5⟩; replace o4 := o4.ext g5) | (go_at_call 29; refine (check_seven _ _ _ o4 o5).mono ?_; rintro e w6 ⟨rfl, hy⟩; have hx := hx5.trans hy))
  clear A k3 o4 o5 g5 hx4 hx5 hy HM
  obtain ⟨ha, hb, hc, hd⟩ := HR.out
  clear HR
  have h1 := betAny_of ha hb
  have h2 := betAny_of hb hc
  have h3 := betAny_of hc hd
  cases e1 : betweenErr a b with
  | some n =>
    rw [e1] at h1
    dsimp only [errV] at h1
    generalize errV (betweenErr b c) = ev2 at h2
    generalize errV (betweenErr c d) = ev3 at h3
    unfold BetAny at h1 h2 h3
    have HB := Lib.hid (And.intro h1 (And.intro h2 h3))
    clear h1 h2 h3 e1 ha hb hc hd
    go_wp2_with (first | (go_at_call 30; with_reducible refine (HB.out.1 _ hx).mono ?_; rintro e w1 ⟨p1, n1, c1, q1, m1, d1, rfl, hy1⟩; have hz1 := hy1.alloc (.cells #[.slice p1 n1 c1, .slice q1 m1 d1] 75); clear hx) | (go_at_call 30; with_reducible refine (HB.out.2.1 _ hz1).mono ?_; rintro e w2 ⟨p2, n2, c2, q2, m2, d2, rfl, hy2⟩; have hz2 := hy2.alloc (.cells #[.slice p2 n2 c2, .slice q2 m2 d2] 75)) | (go_at_call 30; with_reducible refine (HB.out.2.2 _ hz2).mono ?_; rintro e w3 ⟨p3, n3, c3, q3, m3, d3, rfl, hy3⟩; have hz3 := hy3.alloc (.cells #[.slice p3 n3 c3, .slice q3 m3 d3] 75)))
    go_ret
    exact ⟨rfl, hz3⟩
  | none =>
    cases e2 : betweenErr b c with
    | some n =>
      rw [e1] at h1
      rw [e2] at h2
      dsimp only [errV] at h1 h2
      generalize errV (betweenErr c d) = ev3 at h3
      unfold BetAny at h1 h2 h3
      have HB := Lib.hid (And.intro h1 (And.intro h2 h3))
      clear h1 h2 h3 e1 e2 ha hb hc hd
      go_wp2_with (first | (go_at_call 30; with_reducible refine (HB.out.1 _ hx).mono ?_; rintro e w1 ⟨p1, n1, c1, q1, m1, d1, rfl, hy1⟩; have hz1 := hy1.alloc (.cells #[.slice p1 n1 c1, .slice q1 m1 d1] 75); clear hx) | (go_at_call 30; with_reducible refine (HB.out.2.1 _ hz1).mono ?_; rintro e w2 ⟨p2, n2, c2, q2, m2, d2, rfl, hy2⟩; have hz2 := hy2.alloc (.cells #[.slice p2 n2 c2, .slice q2 m2 d2] 75)) | (go_at_call 30; with_reducible refine (HB.out.2.2 _ hz2).mono ?_; rintro e w3 ⟨p3, n3, c3, q3, m3, d3, rfl, hy3⟩; have hz3 := hy3.alloc (.cells #[.slice p3 n3 c3, .slice q3 m3 d3] 75)))
      go_ret
      exact ⟨rfl, hz3⟩
    | none =>
      cases e3 : betweenErr c d with
      | some n =>
        rw [e1] at h1
        rw [e2] at h2
        rw [e3] at h3
        dsimp only [errV] at h1 h2 h3
        unfold BetAny at h1 h2 h3
        have HB := Lib.hid (And.intro h1 (And.intro h2 h3))
        clear h1 h2 h3 e1 e2 e3 ha hb hc hd
        go_wp2_with (first | (go_at_call 30; with_reducible refine (HB.out.1 _ hx).mono ?_; rintro e w1 ⟨p1, n1, c1, q1, m1, d1, rfl, hy1⟩; have hz1 := hy1.alloc (.cells #[.slice p1 n1 c1, .slice q1 m1 d1] 75); clear hx) | (go_at_call 30; with_reducible refine (HB.out.2.1 _ hz1).mono ?_; rintro e w2 ⟨p2, n2, c2, q2, m2, d2, rfl, hy2⟩; have hz2 := hy2.alloc (.cells #[.slice p2 n2 c2, .slice q2 m2 d2] 75)) | (go_at_call 30; with_reducible refine (HB.out.2.2 _ hz2).mono ?_; rintro e w3 ⟨p3, n3, c3, q3, m3, d3, rfl, hy3⟩; have hz3 := hy3.alloc (.cells #[.slice p3 n3 c3, .slice q3 m3 d3] 75)))
        go_ret
        exact ⟨rfl, hz3⟩
      | none =>
        have b1 := betTo_of ha hb e1
        have b2 := betTo_of hb hc e2
        have b3 := betTo_of hc hd e3
        obtain ⟨sa, sb⟩ := betweenErr_none e1
        obtain ⟨sc, sd⟩ := betweenErr_none e3
        have t1 := thenTo_of sa sb sc
        have t2 := thenTo_of sb sc sd
        have t3 := thenTo_of sa sc sd
        have t4 := thenTo_of sa sb sd
        clear h1 h2 h3 e1 e2 e3 ha hb hc hd sa sb sc sd
        generalize lyOf a b = L1 at b1 t1 t4
        generalize lyOf b c = L2 at b2 t1 t2
        generalize lyOf c d = L3 at b3 t2 t3
        generalize lyOf a c = M1 at t1 t3
        generalize lyOf b d = M2 at t2 t4
        generalize lyOf a d = N at t3 t4
        go_upto_region 5 with (go_at_call 30; refine (b1 _ hx).mono ?_; rintro e w1 ⟨p1, c1, q1, d1, rfl, ra1, rt1, hy1⟩)
        have hz1 := hy1.alloc (.cells #[.slice p1 L1.add.length c1, .slice q1 L1.take.length d1] 75)
        have k1 := alloc_heap_new w1 (.cells #[.slice p1 L1.add.length c1, .slice q1 L1.take.length d1] 75)
        replace ra1 := ra1.ext ((Ext.refl _).alloc (.cells #[.slice p1 L1.add.length c1, .slice q1 L1.take.length d1] 75))
        replace rt1 := rt1.ext ((Ext.refl _).alloc (.cells #[.slice p1 L1.add.length c1, .slice q1 L1.take.length d1] 75))
        generalize hwb : World.alloc w1 _ = u1 at hz1 k1 ra1 rt1 ⊢
        clear hwb
        go_upto_region 6 with (go_at_call 30; refine (b2 _ (hx.trans hz1)).mono ?_; rintro e w2 ⟨p2, c2, q2, d2, rfl, ra2, rt2, hy2⟩)
        have hz2 := hy2.alloc (.cells #[.slice p2 L2.add.length c2, .slice q2 L2.take.length d2] 75)
        have k2 := alloc_heap_new w2 (.cells #[.slice p2 L2.add.length c2, .slice q2 L2.take.length d2] 75)
        replace ra2 := ra2.ext ((Ext.refl _).alloc (.cells #[.slice p2 L2.add.length c2, .slice q2 L2.take.length d2] 75))
        replace rt2 := rt2.ext ((Ext.refl _).alloc (.cells #[.slice p2 L2.add.length c2, .slice q2 L2.take.length d2] 75))
        generalize hwb : World.alloc w2 _ = u2 at hz2 k2 ra2 rt2 ⊢
        clear hwb
        go_upto_region 7 with (go_at_call 30; refine (b3 _ ((hx.trans hz1).trans hz2)).mono ?_; rintro e w3 ⟨p3, c3, q3, d3, rfl, ra3, rt3, hy3⟩)
        have hz3 := hy3.alloc (.cells #[.slice p3 L3.add.length c3, .slice q3 L3.take.length d3] 75)
        have k3 := alloc_heap_new w3 (.cells #[.slice p3 L3.add.length c3, .slice q3 L3.take.length d3] 75)
        replace ra3 := ra3.ext ((Ext.refl _).alloc (.cells #[.slice p3 L3.add.length c3, .slice q3 L3.take.length d3] 75))
        replace rt3 := rt3.ext ((Ext.refl _).alloc (.cells #[.slice p3 L3.add.length c3, .slice q3 L3.take.length d3] 75))
        generalize hwb : World.alloc w3 _ = u3 at hz3 k3 ra3 rt3 ⊢
        clear hwb
        have A := cells_at (heap_ext (hz2.trans hz3) k1)
        have B := cells_at (heap_ext (hz3) k2)
        have x1 := ra1.ext (hz2.trans hz3)
        have x2 := rt1.ext (hz2.trans hz3)
        have x3 := ra2.ext (hz3)
        have x4 := rt2.ext (hz3)
        go_upto_region 10 with (go_at_call 28; refine (t1 _ _ _ _ _ x1 x2 x3 x4).mono ?_; rintro e w4 ⟨p4, c4, q4, d4, rfl, ra4, rt4, hy4⟩)
        clear A B x1 x2 x3 x4
        have hz4 := hy4.alloc (.cells #[.slice p4 M1.add.length c4, .slice q4 M1.take.length d4] 75)
        have k4 := alloc_heap_new w4 (.cells #[.slice p4 M1.add.length c4, .slice q4 M1.take.length d4] 75)
        replace ra4 := ra4.ext ((Ext.refl _).alloc (.cells #[.slice p4 M1.add.length c4, .slice q4 M1.take.length d4] 75))
        replace rt4 := rt4.ext ((Ext.refl _).alloc (.cells #[.slice p4 M1.add.length c4, .slice q4 M1.take.length d4] 75))
        generalize hwb : World.alloc w4 _ = u4 at hz4 k4 ra4 rt4 ⊢
        clear hwb
        have A := cells_at (heap_ext (hz3.trans hz4) k2)
        have B := cells_at (heap_ext (hz4) k3)
        have x1 := ra2.ext (hz3.trans hz4)
        have x2 := rt2.ext (hz3.trans hz4)
        have x3 := ra3.ext (hz4)
        have x4 := rt3.ext (hz4)
        go_upto_region 11 with (go_at_call 28; refine (t2 _ _ _ _ _ x1 x2 x3 x4).mono ?_; rintro e w5 ⟨p5, c5, q5, d5, rfl, ra5, rt5, hy5⟩)
        clear A B x1 x2 x3 x4
        have hz5 := hy5.alloc (.cells #[.slice p5 M2.add.length c5, .slice q5 M2.take.length d5] 75)
        have k5 := alloc_heap_new w5 (.cells #[.slice p5 M2.add.length c5, .slice q5 M2.take.length d5] 75)
        replace ra5 := ra5.ext ((Ext.refl _).alloc (.cells #[.slice p5 M2.add.length c5, .slice q5 M2.take.length d5] 75))
        replace rt5 := rt5.ext ((Ext.refl _).alloc (.cells #[.slice p5 M2.add.length c5, .slice q5 M2.take.length d5] 75))
        generalize hwb : World.alloc w5 _ = u5 at hz5 k5 ra5 rt5 ⊢
        clear hwb
        have A := cells_at (heap_ext (hz5) k4)
        have B := cells_at (heap_ext (hz4.trans hz5) k3)
        have x1 := ra4.ext (hz5)
        have x2 := rt4.ext (hz5)
        have x3 := ra3.ext (hz4.trans hz5)
        have x4 := rt3.ext (hz4.trans hz5)
        go_upto_region 12 with (go_at_call 28; refine (t3 _ _ _ _ _ x1 x2 x3 x4).mono ?_; rintro e w6 ⟨p6, c6, q6, d6, rfl, ra6, rt6, hy6⟩)
        clear A B x1 x2 x3 x4
        have hz6 := hy6.alloc (.cells #[.slice p6 N.add.length c6, .slice q6 N.take.length d6] 75)
        have k6 := alloc_heap_new w6 (.cells #[.slice p6 N.add.length c6, .slice q6 N.take.length d6] 75)
        replace ra6 := ra6.ext ((Ext.refl _).alloc (.cells #[.slice p6 N.add.length c6, .slice q6 N.take.length d6] 75))
        replace rt6 := rt6.ext ((Ext.refl _).alloc (.cells #[.slice p6 N.add.length c6, .slice q6 N.take.length d6] 75))
        generalize hwb : World.alloc w6 _ = u6 at hz6 k6 ra6 rt6 ⊢
        clear hwb
        have A := cells_at (heap_ext (hz2.trans (hz3.trans (hz4.trans (hz5.trans hz6)))) k1)
        have B := cells_at (heap_ext (hz6) k5)
        have x1 := ra1.ext (hz2.trans (hz3.trans (hz4.trans (hz5.trans hz6))))
        have x2 := rt1.ext (hz2.trans (hz3.trans (hz4.trans (hz5.trans hz6))))
        have x3 := ra5.ext (hz6)
        have x4 := rt5.ext (hz6)
        go_upto_region 13 with (go_at_call 28; refine (t4 _ _ _ _ _ x1 x2 x3 x4).mono ?_; rintro e w7 ⟨p7, c7, q7, d7, rfl, ra7, rt7, hy7⟩)
        clear A B x1 x2 x3 x4
        have hz7 := hy7.alloc (.cells #[.slice p7 N.add.length c7, .slice q7 N.take.length d7] 75)
        have k7 := alloc_heap_new w7 (.cells #[.slice p7 N.add.length c7, .slice q7 N.take.length d7] 75)
        replace ra7 := ra7.ext ((Ext.refl _).alloc (.cells #[.slice p7 N.add.length c7, .slice q7 N.take.length d7] 75))
        replace rt7 := rt7.ext ((Ext.refl _).alloc (.cells #[.slice p7 N.add.length c7, .slice q7 N.take.length d7] 75))
        generalize hwb : World.alloc w7 _ = u7 at hz7 k7 ra7 rt7 ⊢
        clear hwb
        have A := cells_at (heap_ext hz7 k6)
        have B := cells_at k7
        have x1 := ra6.ext hz7
        have x2 := rt6.ext hz7
        have hxx := ((((((hx.trans hz1).trans hz2).trans hz3).trans hz4).trans hz5).trans hz6).trans hz7
        go_wp2_with (go_at_call 31; refine (sameLayer_same _ _ _ _ N _ x1 x2 ra7 rt7).mono ?_; rintro e w8 ⟨rfl, hy8⟩)
        go_ret
        exact ⟨rfl, hxx.trans hy8⟩
end Go.Proofs.Ytommohepbpdmdaa
