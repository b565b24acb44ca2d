/- layer.Then. -/
import Derived.Test.YtmobdmljbbckiaaDoorLayerWalks
namespace Go.Proofs.YtmobdmljbbckiaaDoor
open Go.RowKit
set_option maxHeartbeats 3200000
set_option maxRecDepth 100000

theorem union_own (va vb : Value) (a b : List Tr) (w : World) (ha : Reads encTr w va a) (hb : Reads encTr w vb b) (hn : a.length + b.length ≤ 100000) :
    Calls Tryd.prog 18 #[va, vb] w fun e w' => ∃ p cap, e = .returned (.slice p (unionL cmpTr a b).length cap) ∧ OwnSet w.heap.size w' (.slice p (unionL cmpTr a b).length cap) (unionL cmpTr a b) ∧ Ext w w' :=
  (union_any va vb a b w ha hb hn).mono fun e w' ⟨v', h1, h2, h3⟩ => by
    obtain ⟨p, cap, rfl⟩ := sliceOf_own h2
    exact ⟨p, cap, h1, h2, h3⟩

/-- what Then is made of, where both are right -/
structure ThenFacts (x y : Ly) : Prop where
  xa : SetOk x.add
  xt : SetOk x.take
  ya : SetOk y.add
  yt : SetOk y.take
theorem lyErr_none {l : Ly} (h : lyErr l = none) : SetOk l.add ∧ SetOk l.take := by
  unfold lyErr at h
  cases hr : rightErr [l.add, l.take] with
  | some n => rw [hr] at h; cases h
  | none => exact rightErr_pair hr

/-- a set's value: a slice that is the call's own -/
def SetVal (B : Nat) (W : World) (v : Value) (l : List Tr) : Prop := ∃ p c, v = .slice p l.length c ∧ OwnSet B W v l
theorem SetVal.ext {B : Nat} {w w' : World} {v : Value} {l : List Tr} (h : SetVal B w v l) (hx : Ext w w') : SetVal B w' v l := by
  obtain ⟨p, c, h1, h2⟩ := h
  exact ⟨p, c, h1, h2.ext hx⟩
/-- a pointer to a new layer -/
def NewLy (B : Nat) (W : World) (v : Value) : Prop := ∃ b, v = .pointer (some ⟨b, 0, none⟩) ∧ B ≤ b ∧ W.heap[b]? = some (.cells #[.slice none 0 0, .slice none 0 0] 43)
theorem NewLy.ext {B : Nat} {w w' : World} {v : Value} (h : NewLy B w v) (hx : Ext w w') : NewLy B w' v := by
  obtain ⟨b, h1, h2, h3⟩ := h
  exact ⟨b, h1, h2, heap_ext hx h3⟩
def TwoVal (B : Nat) (W : World) (v : Value) (l m : List Tr) : Prop := ∃ u t, v = .agg #[u, t] ∧ SetVal B W u l ∧ SetVal B W t m
theorem TwoVal.ext {B : Nat} {w w' : World} {v : Value} {l m : List Tr} (h : TwoVal B w v l m) (hx : Ext w w') : TwoVal B w' v l m := by
  obtain ⟨u, t, h1, h2, h3⟩ := h
  exact ⟨u, t, h1, h2.ext hx, h3.ext hx⟩
theorem SetVal.out {B : Nat} {W : World} {v : Value} {l : List Tr} (h : SetVal B W v l) : ∃ p c, v = .slice p l.length c ∧ OwnSet B W (.slice p l.length c) l := by
  obtain ⟨p, c, rfl, h⟩ := h; exact ⟨p, c, rfl, h⟩
theorem TwoVal.out {B : Nat} {W : World} {v : Value} {l m : List Tr} (h : TwoVal B W v l m) : ∃ p c q d, v = .agg #[.slice p l.length c, .slice q m.length d] ∧ OwnSet B W (.slice p l.length c) l ∧ OwnSet B W (.slice q m.length d) m := by
  obtain ⟨u, t, rfl, ⟨p, c, rfl, h1⟩, ⟨q, d, rfl, h2⟩⟩ := h; exact ⟨p, c, q, d, rfl, h1, h2⟩
/-- what the operations of Then's great region leave -/
def thenR (B B2 : Nat) (P1 P2 U1 P3 P4 U2 : List Tr) (i : Nat) (v : Value) (W : World) : Prop :=
  match i with
  | 4 => SetVal B W v P1
  | 9 => SetVal B W v P2
  | 10 => SetVal B W v U1
  | 15 => SetVal B W v P3
  | 20 => SetVal B W v P4
  | 21 => SetVal B W v U2
  | 22 => TwoVal B W v U1 U2
  | 23 => NewLy B2 W v
  | _ => True
theorem thenR_ext (B B2 : Nat) (P1 P2 U1 P3 P4 U2 : List Tr) (i : Nat) (v : Value) (w w' : World) (h : thenR B B2 P1 P2 U1 P3 P4 U2 i v w) (hx : Ext w w') : thenR B B2 P1 P2 U1 P3 P4 U2 i v w' := by
  unfold thenR at *
  split at h <;> first | exact SetVal.ext h hx | exact TwoVal.ext h hx | exact NewLy.ext h hx | trivial

theorem then_ok (xa xt ya yt : Value) (x y : Ly) (w : World) (h1 : Reads encTr w xa x.add) (h2 : Reads encTr w xt x.take) (h3 : Reads encTr w ya y.add) (h4 : Reads encTr w yt y.take) (h : thenErr x y = none) :
    Calls Tryd.prog 27 #[.agg #[xa, xt], .agg #[ya, yt]] w fun e w' => ∃ u v, e = .returned (.tuple #[.agg #[u, v], .nilIface]) ∧ OwnSet w.heap.size w' u (lyBoth x y).add ∧ OwnSet w.heap.size w' v (lyBoth x y).take ∧ Ext w w' := by
  have hx : lyErr x = none := by
    unfold thenErr at h
    cases hq : lyErr x with
    | none => rfl
    | some n => rw [hq] at h; cases h
  have hy : lyErr y = none := by
    unfold thenErr at h
    cases hq : lyErr y with
    | none => rfl
    | some n => rw [hx, hq] at h; cases h
  have hcl : ¬ ((partL x.add y.add true).length > 0 ∨ (partL x.take y.take true).length > 0) ∧ ¬ ((lyBoth x y).add.length > 200 ∨ (lyBoth x y).take.length > 200) := by
    unfold thenErr at h
    rw [hx, hy] at h
    by_cases g1 : (partL x.add y.add true).length > 0 ∨ (partL x.take y.take true).length > 0
    · rw [if_pos g1] at h; cases h
    · rw [if_neg g1] at h
      by_cases g2 : (lyBoth x y).add.length > 200 ∨ (lyBoth x y).take.length > 200
      · rw [if_pos g2] at h; cases h
      · exact ⟨g1, g2⟩
  obtain ⟨sxa, sxt⟩ := lyErr_none hx
  obtain ⟨sya, syt⟩ := lyErr_none hy
  have b1 : x.add.length ≤ 100000 := Nat.le_trans sxa.1 (by decide)
  have b2 : x.take.length ≤ 100000 := Nat.le_trans sxt.1 (by decide)
  have b3 : y.add.length ≤ 100000 := Nat.le_trans sya.1 (by decide)
  have b4 : y.take.length ≤ 100000 := Nat.le_trans syt.1 (by decide)
  have hc1 : ∀ W, Ext w W → Calls Tryd.prog 41 #[.agg #[xa, xt]] W fun e w' => e = .returned .nilIface ∧ Ext W w' := fun W hW => by
    have := layerCheck_any xa xt x W (h1.ext hW) (h2.ext hW); rw [hx] at this; exact this
  have hc2 : ∀ W, Ext w W → Calls Tryd.prog 41 #[.agg #[ya, yt]] W fun e w' => e = .returned .nilIface ∧ Ext W w' := fun W hW => by
    have := layerCheck_any ya yt y W (h3.ext hW) (h4.ext hW); rw [hy] at this; exact this
  have e1 : (partL x.add y.add true).length = 0 := by omega
  have e2 : (partL x.take y.take true).length = 0 := by omega
  have hp1 : ∀ W, Ext w W → Calls Tryd.prog 42 #[xa, ya, .bool true] W fun e w' => ∃ p c, e = .returned (.slice p 0 c) ∧ Ext W w' := fun W hW =>
    (part_own xa ya x.add y.add true W (h1.ext hW) (h3.ext hW) sya.2.2 b1 b3).mono fun e w' ⟨p, c, g1, _, g2⟩ => ⟨p, c, by rw [e1] at g1; exact g1, g2⟩
  have hp2 : ∀ W, Ext w W → Calls Tryd.prog 42 #[xt, yt, .bool true] W fun e w' => ∃ p c, e = .returned (.slice p 0 c) ∧ Ext W w' := fun W hW =>
    (part_own xt yt x.take y.take true W (h2.ext hW) (h4.ext hW) syt.2.2 b2 b4).mono fun e w' ⟨p, c, g1, _, g2⟩ => ⟨p, c, by rw [e2] at g1; exact g1, g2⟩
  have hq1 := fun W (hW : Ext w W) => part_own xa yt x.add y.take false W (h1.ext hW) (h4.ext hW) syt.2.2 b1 b4
  have hq2 := fun W (hW : Ext w W) => part_own ya xt y.add x.take false W (h3.ext hW) (h2.ext hW) sxt.2.2 b3 b2
  have hq3 := fun W (hW : Ext w W) => part_own xt ya x.take y.add false W (h2.ext hW) (h3.ext hW) sya.2.2 b2 b3
  have hq4 := fun W (hW : Ext w W) => part_own yt xa y.take x.add false W (h4.ext hW) (h1.ext hW) sxa.2.2 b4 b1
  have l1 : (partL x.add y.take false).length ≤ 50000 := Nat.le_trans (partL_length_le _ _ _) (Nat.le_trans sxa.1 (by decide))
  have l2 : (partL y.add x.take false).length ≤ 50000 := Nat.le_trans (partL_length_le _ _ _) (Nat.le_trans sya.1 (by decide))
  have l3 : (partL x.take y.add false).length ≤ 50000 := Nat.le_trans (partL_length_le _ _ _) (Nat.le_trans sxt.1 (by decide))
  have l4 : (partL y.take x.add false).length ≤ 50000 := Nat.le_trans (partL_length_le _ _ _) (Nat.le_trans syt.1 (by decide))
  have f1 : (lyBoth x y).add = unionL cmpTr (partL x.add y.take false) (partL y.add x.take false) := rfl
  have f2 : (lyBoth x y).take = unionL cmpTr (partL x.take y.add false) (partL y.take x.add false) := rfl
  rw [f1, f2] at hcl ⊢
  generalize partL x.add y.take false = P1 at hq1 l1 hcl ⊢
  generalize partL y.add x.take false = P2 at hq2 l2 hcl ⊢
  generalize partL x.take y.add false = P3 at hq3 l3 hcl ⊢
  generalize partL y.take x.add false = P4 at hq4 l4 hcl ⊢
  have hu1 := fun W va vb (ha : Reads encTr W va P1) (hb : Reads encTr W vb P2) => union_own va vb P1 P2 W ha hb (by omega)
  have hu2 := fun W va vb (ha : Reads encTr W va P3) (hb : Reads encTr W vb P4) => union_own va vb P3 P4 W ha hb (by omega)
  have n1 : (unionL cmpTr P1 P2).length ≤ 200 := by omega
  have n2 : (unionL cmpTr P3 P4).length ≤ 200 := by omega
  generalize unionL cmpTr P1 P2 = U1 at hu1 n1 ⊢
  generalize unionL cmpTr P3 P4 = U2 at hu2 n2 ⊢
  obtain ⟨axa, cxa, rfl⟩ := h1.slice
  obtain ⟨axt, cxt, rfl⟩ := h2.slice
  obtain ⟨aya, cya, rfl⟩ := h3.slice
  obtain ⟨ayt, cyt, rfl⟩ := h4.slice
  have hxb := (((Ext.refl w).alloc (.cells #[.slice axa x.add.length cxa, .slice axt x.take.length cxt] 43)).alloc (.cells #[.slice aya y.add.length cya, .slice ayt y.take.length cyt] 43)).alloc (.cells #[.slice none 0 0, .slice none 0 0] 43)
  have k0 := heap_ext (((Ext.refl _).alloc (.cells #[.slice aya y.add.length cya, .slice ayt y.take.length cyt] 43)).alloc (.cells #[.slice none 0 0, .slice none 0 0] 43)) (alloc_heap_new w (.cells #[.slice axa x.add.length cxa, .slice axt x.take.length cxt] 43))
  have k1 := heap_ext ((Ext.refl _).alloc (.cells #[.slice none 0 0, .slice none 0 0] 43)) (alloc_heap_new (w.alloc (.cells #[.slice axa x.add.length cxa, .slice axt x.take.length cxt] 43)) (.cells #[.slice aya y.add.length cya, .slice ayt y.take.length cyt] 43))
  have k2 := alloc_heap_new ((w.alloc (.cells #[.slice axa x.add.length cxa, .slice axt x.take.length cxt] 43)).alloc (.cells #[.slice aya y.add.length cya, .slice ayt y.take.length cyt] 43)) (.cells #[.slice none 0 0, .slice none 0 0] 43)
  simp only [World.size_alloc] at k1 k2
  have hsz : (((w.alloc (.cells #[.slice axa x.add.length cxa, .slice axt x.take.length cxt] 43)).alloc (.cells #[.slice aya y.add.length cya, .slice ayt y.take.length cyt] 43)).alloc (.cells #[.slice none 0 0, .slice none 0 0] 43)).heap.size = w.heap.size + 1 + 1 + 1 := by simp only [World.size_alloc]
  clear h1 h2 h3 h4 hcl f1 f2 l1 l2 l3 l4 e1 e2 hx hy h sxa sxt sya syt b1 b2 b3 b4
  obtain ⟨B, hB⟩ : ∃ B, B = w.heap.size := ⟨_, rfl⟩
  have HB := Lib.hid hB
  clear hB
  have HH := Lib.hid (And.intro hc1 (And.intro hc2 (And.intro hp1 (And.intro hp2 (And.intro hq1 (And.intro hq2 (And.intro hq3 (And.intro hq4 (And.intro hu1 hu2)))))))))
  clear hc1 hc2 hp1 hp2 hq1 hq2 hq3 hq4 hu1 hu2
  go_enter Tryd.func27, Tryd.ntmps27
  go_upto_region 1 with fail
  generalize hwb : World.alloc (World.alloc (World.alloc w _) _) _ = wb at hxb k0 k1 k2 hsz ⊢
  clear hwb
  have HSZ := Lib.hid hsz
  clear hsz
  have A0 := cells_at k0
  have A1 := cells_at k1
  go_wp2
  have hxc := (Ext.refl wb).alloc (.cells #[.slice axa x.add.length cxa, .slice axt x.take.length cxt, .slice aya y.add.length cya, .slice ayt y.take.length cyt] 43)
  have ks := alloc_heap_new wb (.cells #[.slice axa x.add.length cxa, .slice axt x.take.length cxt, .slice aya y.add.length cya, .slice ayt y.take.length cyt] 43)
  generalize hwc : World.alloc wb _ = wc at hxc ks ⊢
  clear hwc A0 A1
  have hc1 : ∀ W, Ext wc W → Calls Tryd.prog 41 #[.agg #[.slice axa x.add.length cxa, .slice axt x.take.length cxt]] W fun e w' => e = .returned .nilIface ∧ Ext wc w' := fun W hW => (HH.out.1 W ((hxb.trans hxc).trans hW)).mono fun e w' ⟨g1, g2⟩ => ⟨g1, hW.trans g2⟩
  have hc2 : ∀ W, Ext wc W → Calls Tryd.prog 41 #[.agg #[.slice aya y.add.length cya, .slice ayt y.take.length cyt]] W fun e w' => e = .returned .nilIface ∧ Ext wc w' := fun W hW => (HH.out.2.1 W ((hxb.trans hxc).trans hW)).mono fun e w' ⟨g1, g2⟩ => ⟨g1, hW.trans g2⟩
  have hc3 : ∀ W, Ext wc W → Calls Tryd.prog 42 #[.slice axa x.add.length cxa, .slice aya y.add.length cya, .bool true] W fun e w' => ∃ p c, e = .returned (.slice p 0 c) ∧ Ext wc w' := fun W hW => (HH.out.2.2.1 W ((hxb.trans hxc).trans hW)).mono fun e w' ⟨p, c, g1, g2⟩ => ⟨p, c, g1, hW.trans g2⟩
  have hc4 : ∀ W, Ext wc W → Calls Tryd.prog 42 #[.slice axt x.take.length cxt, .slice ayt y.take.length cyt, .bool true] W fun e w' => ∃ p c, e = .returned (.slice p 0 c) ∧ Ext wc w' := fun W hW => (HH.out.2.2.2.1 W ((hxb.trans hxc).trans hW)).mono fun e w' ⟨p, c, g1, g2⟩ => ⟨p, c, g1, hW.trans g2⟩
  have HC := Lib.hid (And.intro hc1 (And.intro hc2 (And.intro hc3 hc4)))
  have HX := Lib.hid (And.intro (hxb.trans hxc) (And.intro HSZ.out hxc.size))
  replace k0 := heap_ext hxc k0
  replace k1 := heap_ext hxc k1
  replace k2 := heap_ext hxc k2
  clear hc1 hc2 hc3 hc4 hxb hxc
  have S := cells_at ks
  have hxa := (Ext.refl wc).alloc (.cells #[.slice axa x.add.length cxa, .slice axt x.take.length cxt] 43)
  refine wp_loop_rounds 3 ?_
  rw [rounds_succ]
  go_wp2_with (go_at_call 41; with_reducible refine (HC.out.1 _ hxa).mono ?_; rintro e w1 ⟨rfl, hx1⟩)
  rw [rounds_succ]
  clear hxa
  have hxa := hx1.alloc (.cells #[.slice aya y.add.length cya, .slice ayt y.take.length cyt] 43)
  have S1 := cells_at (heap_ext hx1 ks)
  clear S
  go_wp2_with (go_at_call 41; with_reducible refine (HC.out.2.1 _ hxa).mono ?_; rintro e w2 ⟨rfl, hx2⟩)
  rw [rounds_succ]
  clear hxa S1 ks hx1
  have A0 := cells_at (heap_ext hx2 k0)
  have A1 := cells_at (heap_ext hx2 k1)
  go_upto_region 10 with (first | (go_at_call 42; with_reducible refine (HC.out.2.2.1 _ hx2).mono ?_; rintro e w3 ⟨p3, c3, rfl, hx3⟩; clear A0 A1; have A0 := cells_at (heap_ext hx3 k0); have A1 := cells_at (heap_ext hx3 k1)) | (go_at_call 42; with_reducible refine (HC.out.2.2.2 _ hx3).mono ?_; rintro e w4 ⟨p4, c4, rfl, hx4⟩))
  clear A0 A1
  have A0 := Later.cells (heap_ext hx4 k0)
  have A1 := Later.cells (heap_ext hx4 k1)
  obtain ⟨B2, hB2⟩ : ∃ B2, B2 = w4.heap.size := ⟨_, rfl⟩
  have HB2 := Lib.hid hB2
  clear hB2
  refine wp_region_treez (Ext w4) [0, 1, 2, 3, 5, 6, 7, 8, 11, 12, 13, 14, 16, 17, 18, 19] ([4, 9, 10, 15, 20, 21, 22, 23].length + 1) 24 (by kernel_rfl) (by kernel_rfl) (fun _ _ h k => h.trans k) (Ext.refl w4) ?_
  simp only [List.filterMap_cons, List.filterMap_nil, List.getElem?_cons_succ, List.getElem?_cons_zero]
  repeat (first | ((with_reducible refine wpFr_yes ?hw ?_); (case hw => rfl); intro K hK; go_simp; (first | (refine hK _ ?_; clear hK K) | (apply Exists.intro; refine ⟨fun x => ?_, hK _ ?_⟩; (fail); clear hK K))) | ((with_reducible refine wpFr_not ?hw ?_); (case hw => rfl); intro K hK; go_simp; (refine hK _ ?_; clear hK K)))
  refine wpFr_nil ?_
  refine wpE_steps [4, 9, 10, 15, 20, 21, 22, 23] (fun i => match i with | 4 => [] | 9 => [] | 10 => [4, 9] | 15 => [] | 20 => [] | 21 => [15, 20] | 22 => [10, 21] | 23 => [] | _ => []) ?R rfl (by kernel_rfl) (fun _ _ h k => h.trans k) (Ext.refl w4) ?hR ?hstep ?hend
  case R => exact thenR B B2 P1 P2 U1 P3 P4 U2
  case hR => exact thenR_ext B B2 P1 P2 U1 P3 P4 U2
  case hstep =>
    simp only [stepsOk, List.getElem?_toArray, List.getElem?_cons_succ, List.getElem?_cons_zero]
    refine ⟨?s4, ?s9, ?s10, ?s15, ?s20, ?s21, ?s22, ?s23, trivial⟩
    case s4 =>
      intro f W hW hd
      have hwW := (HX.out.1.trans hx4).trans hW
      simp only [putAll, dstOf, List.getElem?_toArray, List.getElem?_cons_succ, List.getElem?_cons_zero, Option.bind_some]
      refine opI_yes rfl ?_
      go_simp
      refine (HH.out.2.2.2.2.1 W hwW).mono ?_
      rintro e w' ⟨p, c, rfl, ho, hx⟩
      exact ⟨_, rfl, hx, ⟨p, c, rfl, ho.mono (by rw [HB.out]; exact hwW.size)⟩⟩
    case s9 =>
      intro f W hW hd
      have hwW := (HX.out.1.trans hx4).trans hW
      simp only [putAll, dstOf, List.getElem?_toArray, List.getElem?_cons_succ, List.getElem?_cons_zero, Option.bind_some]
      refine opI_yes rfl ?_
      go_simp
      refine (HH.out.2.2.2.2.2.1 W hwW).mono ?_
      rintro e w' ⟨p, c, rfl, ho, hx⟩
      exact ⟨_, rfl, hx, ⟨p, c, rfl, ho.mono (by rw [HB.out]; exact hwW.size)⟩⟩
    case s10 =>
      intro f W hW hd
      have hwW := (HX.out.1.trans hx4).trans hW
      have h4 : SetVal B W (f 4) P1 := hd 4 (by simp)
      obtain ⟨p4, c4, e4, o4⟩ := h4.out
      have h9 : SetVal B W (f 9) P2 := hd 9 (by simp)
      obtain ⟨p9, c9, e9, o9⟩ := h9.out
      simp only [putAll, dstOf, List.getElem?_toArray, List.getElem?_cons_succ, List.getElem?_cons_zero, Option.bind_some]
      rw [e4, e9]
      refine opI_yes rfl ?_
      go_simp
      refine (HH.out.2.2.2.2.2.2.2.2.1 W _ _ o4.reads o9.reads).mono ?_
      rintro e w' ⟨p, c, rfl, ho, hx⟩
      exact ⟨_, rfl, hx, ⟨p, c, rfl, ho.mono (by rw [HB.out]; exact hwW.size)⟩⟩
    case s15 =>
      intro f W hW hd
      have hwW := (HX.out.1.trans hx4).trans hW
      simp only [putAll, dstOf, List.getElem?_toArray, List.getElem?_cons_succ, List.getElem?_cons_zero, Option.bind_some]
      refine opI_yes rfl ?_
      go_simp
      refine (HH.out.2.2.2.2.2.2.1 W hwW).mono ?_
      rintro e w' ⟨p, c, rfl, ho, hx⟩
      exact ⟨_, rfl, hx, ⟨p, c, rfl, ho.mono (by rw [HB.out]; exact hwW.size)⟩⟩
    case s20 =>
      intro f W hW hd
      have hwW := (HX.out.1.trans hx4).trans hW
      simp only [putAll, dstOf, List.getElem?_toArray, List.getElem?_cons_succ, List.getElem?_cons_zero, Option.bind_some]
      refine opI_yes rfl ?_
      go_simp
      refine (HH.out.2.2.2.2.2.2.2.1 W hwW).mono ?_
      rintro e w' ⟨p, c, rfl, ho, hx⟩
      exact ⟨_, rfl, hx, ⟨p, c, rfl, ho.mono (by rw [HB.out]; exact hwW.size)⟩⟩
    case s21 =>
      intro f W hW hd
      have hwW := (HX.out.1.trans hx4).trans hW
      have h15 : SetVal B W (f 15) P3 := hd 15 (by simp)
      obtain ⟨p15, c15, e15, o15⟩ := h15.out
      have h20 : SetVal B W (f 20) P4 := hd 20 (by simp)
      obtain ⟨p20, c20, e20, o20⟩ := h20.out
      simp only [putAll, dstOf, List.getElem?_toArray, List.getElem?_cons_succ, List.getElem?_cons_zero, Option.bind_some]
      rw [e15, e20]
      refine opI_yes rfl ?_
      go_simp
      refine (HH.out.2.2.2.2.2.2.2.2.2 W _ _ o15.reads o20.reads).mono ?_
      rintro e w' ⟨p, c, rfl, ho, hx⟩
      exact ⟨_, rfl, hx, ⟨p, c, rfl, ho.mono (by rw [HB.out]; exact hwW.size)⟩⟩
    case s22 =>
      intro f W hW hd
      have h10 : SetVal B W (f 10) U1 := hd 10 (by simp)
      have h21 : SetVal B W (f 21) U2 := hd 21 (by simp)
      obtain ⟨pa, ca, e10, o10⟩ := h10.out
      obtain ⟨pb, cb, e21, o21⟩ := h21.out
      simp only [putAll, dstOf, List.getElem?_toArray, List.getElem?_cons_succ, List.getElem?_cons_zero, Option.bind_some]
      rw [e10, e21]
      refine opI_yes rfl ?_
      go_simp
      exact ⟨Ext.refl _, ⟨_, _, rfl, ⟨pa, ca, rfl, o10⟩, ⟨pb, cb, rfl, o21⟩⟩⟩
    case s23 =>
      intro f W hW hd
      simp only [putAll, dstOf, List.getElem?_toArray, List.getElem?_cons_succ, List.getElem?_cons_zero, Option.bind_some]
      refine opI_yes rfl ?_
      go_simp
      exact ⟨(Ext.refl _).alloc _, ⟨W.heap.size, rfl, by rw [HB2.out]; exact hW.size, alloc_heap_new _ _⟩⟩
  case hend =>
    intro f W K hW hr hK
    have h22 : TwoVal B W (f 22) U1 U2 := hr 22 (by simp)
    have h23 : NewLy B2 W (f 23) := hr 23 (by simp)
    obtain ⟨pu, cu, pt, ct, e22, ou, ot⟩ := h22.out
    obtain ⟨b, e23, hbB, hbb⟩ := h23
    clear hr
    simp only [putAll, dstOf, List.getElem?_toArray, List.getElem?_cons_succ, List.getElem?_cons_zero, Option.bind_some]
    rw [e22, e23]
    generalize f 4 = g4
    generalize f 9 = g9
    generalize f 10 = g10
    generalize f 15 = g15
    generalize f 20 = g20
    generalize f 21 = g21
    clear e22 e23
    refine lastI_yes rfl ?_
    have d0 := cells_at hbb 0
    have d1 := cells_at hbb 1
    have fz : ∀ i, W.frozen? ⟨b, i, none⟩ = false := fun i => by simp [World.frozen?, hbb]
    go_simp
    refine hK _ _ (fun z hz => ?_)
    clear hK K
    have hwW := (HX.out.1.trans hx4).trans hW
    have hbw : w.heap.size ≤ b := by have := hbB; rw [HB2.out] at this; exact Nat.le_trans (HX.out.1.trans hx4).size this
    obtain ⟨w5, hw5, hc5, hb5, hk5⟩ := set_two hbb (.slice pu U1.length cu) (.slice pt U2.length ct) hbw hwW
    rw [← hw5] at hz
    have k2w : w5.heap[w.heap.size + 1 + 1]? = some (.cells #[.slice none 0 0, .slice none 0 0] 43) := by
      have hlt : w.heap.size + 1 + 1 < w4.heap.size := (Array.getElem?_eq_some_iff.1 (heap_ext hx4 k2)).1
      have hne : w.heap.size + 1 + 1 ≠ b := by have := hbB; rw [HB2.out] at this; omega
      rw [hw5, Below.heap_setCell _ _ _ _ hne, Below.heap_setCell _ _ _ _ hne]
      exact heap_ext (hx4.trans hW) k2
    have o1 := (show OwnSet B w5 _ U1 from hk5 (by decide) ou).ext hz
    have o2 := (show OwnSet B w5 _ U2 from hk5 (by decide) ot).ext hz
    have A5 := cells_at (heap_ext hz hc5)
    have A2 := cells_at (heap_ext hz k2w)
    have fz2 : ∀ i, z.frozen? ⟨w.heap.size + 1 + 1, i, none⟩ = false := fun i => by simp [World.frozen?, heap_ext hz k2w]
    have HZ := Lib.hid (And.intro (heap_ext hz k2w) (And.intro o1 (And.intro o2 (Ext.trans hb5 hz))))
    clear hw5 hc5 hb5 hk5 k2w o1 o2 hz hbb d0 d1 fz ou ot hbB hbw hwW hW
    go_wp2
    obtain ⟨w6, hw6, hc6, hb6, hk6⟩ := set_two HZ.out.1 (.slice pu U1.length cu) (.slice pt U2.length ct) (by omega) HZ.out.2.2.2
    rw [← hw6]
    have A := cells_at hc6
    clear hw6 A5 A2 fz2
    (try simp only [Exit.inBlock, Exit.then])
    refine bodyPost_ret (v := .tuple #[.agg #[.slice pu U1.length cu, .slice pt U2.length ct], .nilIface]) (results_cell_tmp rfl rfl ?_ rfl) rfl ?_
    · go_simp
    · exact ⟨_, _, rfl, by rw [← HB.out]; exact hk6 (by decide) HZ.out.2.1, by rw [← HB.out]; exact hk6 (by decide) HZ.out.2.2.1, hb6⟩
end Go.Proofs.YtmobdmljbbckiaaDoor
