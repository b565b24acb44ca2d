/- The law MergeSame walked. -/
import Derived.Test.YtmobdmljbbckiaaMergePairsFact
import Derived.Test.YtmobdmljbbckiaaMergeMore
import Derived.Test.YtmobdmljbbckiaaTriples
namespace Go.Proofs.Ytmobdmljbbckiaa
open Go.RowKit
set_option maxHeartbeats 1600000
set_option maxRecDepth 100000

theorem fact_pre : (∀ W, Calls Try.prog 9 #[.int .i64 3] W fun e w' => ∃ p c, e = .returned (.slice p 3 c) ∧ Reads encTr w' (.slice p 3 c) (manyL 3) ∧ Ext W w') ∧
    ∀ W p c, Reads encTr W (.slice p 3 c) (manyL 3) → Calls Try.prog 15 #[.slice p 3 c, .slice none 0 0] W fun e w' => ∃ g c, e = .returned (.tuple #[.slice (some ⟨g, 0, none⟩) 1 c, .nilIface]) ∧ w'.cell? ⟨g, 1, none⟩ = some (.string ⟨#[115]⟩) ∧ Ext W w' := by
  refine ⟨fun W => (many_any 3 (by decide) W).mono fun e w' ⟨v', h1, h2, h3⟩ => ?_, fun W p c h => (pairs_fact _ W h).mono fun e w' ⟨g, c, h1, h2, h3⟩ => ⟨g, c, h1, by simpa using h2, h3⟩⟩
  obtain ⟨p, c, rfl⟩ := h2.slice
  rw [manyL_len] at h1 h2
  exact ⟨p, c, h1, h2.reads, h3⟩

theorem mergeSame_any {w : World} (vo : Value) (o : List Tr) (ho : Reads encTr w vo o) {q1 : Prop} (_ : q1) (va : Value) (a : List Tr) (ha : Reads encTr w va a) {q2 : Prop} (_ : q2)
    (vb : Value) (b : List Tr) (hb : Reads encTr w vb b) {q3 : Prop} (_ : q3) (_ : World) :
    Calls Try.prog 5 #[vo, va, vb] w fun e w' => e = .returned (.bool true) ∧ Ext w w' := by
  have HA := Lib.hid fact_pre
  have so := fun W (hW : Ext w W) => sorted_any vo o W (ho.ext hW)
  have sa := fun W (hW : Ext w W) => sorted_any va a W (ha.ext hW)
  have sb := fun W (hW : Ext w W) => sorted_any vb b W (hb.ext hW)
  have hR : rightErr [o, a, a] = (setErr o).or ((setErr a).or ((setErr a).or none)) := rfl
  have hR2 : rightErr [o, a, b] = (setErr o).or ((setErr a).or ((setErr b).or none)) := rfl
  have hR3 : rightErr [o, b, a] = (setErr o).or ((setErr b).or ((setErr a).or none)) := rfl
  have hx0 := Ext.refl w
  cases eo : setErr o with
  | some n =>
    rw [eo] at hR so
    have m1 := fun W (hW : Ext w W) => merge_bad vo va va o a a W (ho.ext hW) (ha.ext hW) (ha.ext hW) n hR
    dsimp only [errV] at so
    obtain ⟨po, co, rfl⟩ := ho.slice
    obtain ⟨pa, ca, rfl⟩ := ha.slice
    obtain ⟨pb, cb, rfl⟩ := hb.slice
    have HH := Lib.hid (And.intro m1 so)
    clear m1 so sa sb hR hR2 hR3 ho ha hb eo
    go_enter Try.func5, Try.ntmps5
    go_wp2_with (first | (go_at_call 9; refine (HA.out.1 _).mono ?_; rintro e w1 ⟨p1, c1, rfl, hr1, hx1⟩; have HM1 := Lib.hid hr1; clear hr1) | (go_at_call 15; refine (HA.out.2 _ _ _ HM1.out).mono ?_; rintro e w2 ⟨g, c, rfl, hg, hx2⟩) | (go_at_call 16; refine (HH.out.1 _ (hx1.trans hx2)).mono ?_; rintro e w3 ⟨rfl, hx3⟩) | (go_at_call 17; with_reducible refine (HH.out.2 _ ((hx1.trans hx2).trans hx3)).mono ?_; rintro e w4 ⟨rfl, hx4⟩))
    go_ret
    exact ⟨rfl, ((hx1.trans hx2).trans hx3).trans hx4⟩
  | none =>
    rw [eo] at hR hR2 hR3 so
    cases ea : setErr a with
    | some n =>
      rw [ea] at hR sa
      have m1 := fun W (hW : Ext w W) => merge_bad vo va va o a a W (ho.ext hW) (ha.ext hW) (ha.ext hW) n hR
      dsimp only [errV] at so sa
      obtain ⟨po, co, rfl⟩ := ho.slice
      obtain ⟨pa, ca, rfl⟩ := ha.slice
      obtain ⟨pb, cb, rfl⟩ := hb.slice
      have HH := Lib.hid (And.intro m1 (And.intro so sa))
      clear m1 so sa sb hR hR2 hR3 ho ha hb eo ea
      go_enter Try.func5, Try.ntmps5
      go_wp2_with (first | (go_at_call 9; refine (HA.out.1 _).mono ?_; rintro e w1 ⟨p1, c1, rfl, hr1, hx1⟩; have HM1 := Lib.hid hr1; clear hr1) | (go_at_call 15; refine (HA.out.2 _ _ _ HM1.out).mono ?_; rintro e w2 ⟨g, c, rfl, hg, hx2⟩) | (go_at_call 16; refine (HH.out.1 _ (hx1.trans hx2)).mono ?_; rintro e w3 ⟨rfl, hx3⟩; have y3 := (hx1.trans hx2).trans hx3) | (go_at_call 17; with_reducible refine (HH.out.2.1 _ y3).mono ?_; rintro e w4 ⟨rfl, hx4⟩; have y4 := y3.trans hx4) | (go_at_call 17; with_reducible refine (HH.out.2.2 _ y4).mono ?_; rintro e w5 ⟨rfl, hx5⟩; have y5 := y4.trans hx5))
      go_ret
      exact ⟨rfl, y5⟩
    | none =>
      rw [ea] at hR hR2 hR3 sa
      have oka := (setErr_none_iff a).1 ea
      have m1 : ∀ W, Ext w W → Calls Try.prog 16 #[vo, va, va] W fun e w' => ∃ p c, e = .returned (.tuple #[.slice p a.length c, .slice none 0 0, .nilIface]) ∧ Reads encTr w' (.slice p a.length c) a ∧ Ext W w' := fun W hW => by
        have := merge_ok vo va va o a a W (ho.ext hW) (ha.ext hW) (ha.ext hW) hR (by rw [mCl_same]; rfl) (by rw [mOut_same oka.2.2]; exact oka.1)
        rw [mOut_same oka.2.2] at this
        exact this
      cases eb : setErr b with
      | some n =>
        rw [eb] at sb
        dsimp only [errV] at so sa sb
        obtain ⟨po, co, rfl⟩ := ho.slice
        obtain ⟨pa, ca, rfl⟩ := ha.slice
        obtain ⟨pb, cb, rfl⟩ := hb.slice
        have HH := Lib.hid (And.intro m1 (And.intro so (And.intro sa sb)))
        clear m1 so sa sb hR hR2 hR3 ho ha hb eo ea eb oka
        go_enter Try.func5, Try.ntmps5
        go_wp2_with (first | (go_at_call 9; refine (HA.out.1 _).mono ?_; rintro e w1 ⟨p1, c1, rfl, hr1, hx1⟩; have HM1 := Lib.hid hr1; clear hr1) | (go_at_call 15; refine (HA.out.2 _ _ _ HM1.out).mono ?_; rintro e w2 ⟨g, c, rfl, hg, hx2⟩) | (go_at_call 16; refine (HH.out.1 _ (hx1.trans hx2)).mono ?_; rintro e w3 ⟨p3, c3, rfl, hr3, hx3⟩; have y3 := (hx1.trans hx2).trans hx3; have HR3 := Lib.hid hr3; clear hr3) | (go_at_call 17; with_reducible refine (HH.out.2.1 _ y3).mono ?_; rintro e w4 ⟨rfl, hx4⟩; have y4 := y3.trans hx4) | (go_at_call 17; with_reducible refine (HH.out.2.2.1 _ y4).mono ?_; rintro e w5 ⟨rfl, hx5⟩; have y5 := y4.trans hx5) | (go_at_call 17; with_reducible refine (HH.out.2.2.2 _ y5).mono ?_; rintro e w6 ⟨rfl, hx6⟩; have y6 := y5.trans hx6))
        go_ret
        exact ⟨rfl, y6⟩
      | none =>
        rw [eb] at hR2 hR3 sb
        dsimp only [errV] at so sa sb
        have hT := mOut_turn o a b
        have t1 : ∀ W p c, Reads encTr W (.slice p a.length c) a → Ext w W → Calls Try.prog 18 #[.slice p a.length c, va] W fun e w' => e = .returned (.bool true) ∧ Ext W w' := fun W p c h hW => by
          have := triples_any _ va a a W h (ha.ext hW)
          rw [decide_eq_true rfl] at this
          exact this
        have t2 : ∀ (Z : List Tr) W p c p' c', Reads encTr W (.slice p Z.length c) Z → Reads encTr W (.slice p' Z.length c') Z → Calls Try.prog 18 #[.slice p Z.length c, .slice p' Z.length c'] W fun e w' => e = .returned (.bool true) ∧ Ext W w' := fun Z W p c p' c' h h' => by
          have := triples_any _ _ Z Z W h h'
          rw [decide_eq_true rfl] at this
          exact this
        by_cases hn : (mOut true o a b).length ≤ 200
        · have f1 := fun W (hW : Ext w W) => prefer_ok vo va vb o a b W (ho.ext hW) (ha.ext hW) (hb.ext hW) true hR2 hn
          have f2 := fun W (hW : Ext w W) => prefer_ok vo vb va o b a W (ho.ext hW) (hb.ext hW) (ha.ext hW) false hR3 (by rw [← hT]; exact hn)
          rw [← hT] at f2
          by_cases hc : (mCl o a b).length = 0
          · have m2 := fun W (hW : Ext w W) => merge_ok vo va vb o a b W (ho.ext hW) (ha.ext hW) (hb.ext hW) hR2 hc hn
            generalize mOut true o a b = Z at f1 f2 m2
            obtain ⟨po, co, rfl⟩ := ho.slice
            obtain ⟨pa, ca, rfl⟩ := ha.slice
            obtain ⟨pb, cb, rfl⟩ := hb.slice
            have HH := Lib.hid (And.intro m1 (And.intro so (And.intro sa sb)))
            have HF := Lib.hid (And.intro f1 (And.intro f2 (And.intro m2 (And.intro t1 (t2 Z)))))
            clear m1 so sa sb hR hR2 hR3 ho ha hb eo ea eb oka hT t1 t2 hn hc f1 f2 m2
            go_enter Try.func5, Try.ntmps5
            go_wp2_with (first | (go_at_call 9; refine (HA.out.1 _).mono ?_; rintro e w1 ⟨p1, c1, rfl, hr1, hx1⟩; have HM1 := Lib.hid hr1; clear hr1) | (go_at_call 15; refine (HA.out.2 _ _ _ HM1.out).mono ?_; rintro e w2 ⟨g, c, rfl, hg, hx2⟩) | (go_at_call 16; with_reducible refine (HH.out.1 _ (hx1.trans hx2)).mono ?_; rintro e w3 ⟨p3, c3, rfl, hr3, hx3⟩; have y3 := (hx1.trans hx2).trans hx3; have HR3 := Lib.hid hr3; clear hr3) | (go_at_call 17; with_reducible refine (HH.out.2.1 _ y3).mono ?_; rintro e w4 ⟨rfl, hx4⟩; have y4 := y3.trans hx4) | (go_at_call 17; with_reducible refine (HH.out.2.2.1 _ y4).mono ?_; rintro e w5 ⟨rfl, hx5⟩; have y5 := y4.trans hx5) | (go_at_call 17; with_reducible refine (HH.out.2.2.2 _ y5).mono ?_; rintro e w6 ⟨rfl, hx6⟩; have y6 := y5.trans hx6) | (go_at_call 18; with_reducible refine (HF.out.2.2.2.1 _ _ _ (HR3.out.ext (hx4.trans (hx5.trans hx6))) y6).mono ?_; rintro e w7 ⟨rfl, hx7⟩; have y7 := y6.trans hx7) | (go_at_call 19; with_reducible refine (HF.out.1 _ y7).mono ?_; rintro e w8 ⟨p8, c8, rfl, hr8, hx8⟩; have y8 := y7.trans hx8; have HR8 := Lib.hid hr8; clear hr8) | (go_at_call 19; with_reducible refine (HF.out.2.1 _ y8).mono ?_; rintro e w9 ⟨p9, c9, rfl, hr9, hx9⟩; have y9 := y8.trans hx9; have HR9 := Lib.hid hr9; clear hr9) | (go_at_call 18; with_reducible refine (HF.out.2.2.2.2 _ _ _ _ _ (HR8.out.ext hx9) HR9.out).mono ?_; rintro e w10 ⟨rfl, hx10⟩; have y10 := y9.trans hx10) | (go_at_call 16; with_reducible refine (HF.out.2.2.1 _ y10).mono ?_; rintro e w11 ⟨p11, c11, rfl, hr11, hx11⟩; have y11 := y10.trans hx11; have HR11 := Lib.hid hr11; clear hr11) | (go_at_call 18; with_reducible refine (HF.out.2.2.2.2 _ _ _ _ _ (HR8.out.ext (hx9.trans (hx10.trans hx11))) HR11.out).mono ?_; rintro e w12 ⟨rfl, hx12⟩; have y12 := y11.trans hx12))
            go_ret
            exact ⟨rfl, y12⟩
          · have m2 := fun W (hW : Ext w W) => merge_clash vo va vb o a b W (ho.ext hW) (ha.ext hW) (hb.ext hW) hR2 (by omega)
            generalize mOut true o a b = Z at f1 f2
            generalize mCl o a b = C at m2 hc
            obtain ⟨po, co, rfl⟩ := ho.slice
            obtain ⟨pa, ca, rfl⟩ := ha.slice
            obtain ⟨pb, cb, rfl⟩ := hb.slice
            have HH := Lib.hid (And.intro m1 (And.intro so (And.intro sa sb)))
            have HF := Lib.hid (And.intro f1 (And.intro f2 (And.intro m2 (And.intro t1 (t2 Z)))))
            clear m1 so sa sb hR hR2 hR3 ho ha hb eo ea eb oka hT t1 t2 hn hc f1 f2 m2
            go_enter Try.func5, Try.ntmps5
            go_upto_region 17 with (first | (go_at_call 9; refine (HA.out.1 _).mono ?_; rintro e w1 ⟨p1, c1, rfl, hr1, hx1⟩; have HM1 := Lib.hid hr1; clear hr1) | (go_at_call 15; refine (HA.out.2 _ _ _ HM1.out).mono ?_; rintro e w2 ⟨g, c, rfl, hg, hx2⟩) | (go_at_call 16; with_reducible refine (HH.out.1 _ (hx1.trans hx2)).mono ?_; rintro e w3 ⟨p3, c3, rfl, hr3, hx3⟩; have y3 := (hx1.trans hx2).trans hx3; have HR3 := Lib.hid hr3; clear hr3) | (go_at_call 17; with_reducible refine (HH.out.2.1 _ y3).mono ?_; rintro e w4 ⟨rfl, hx4⟩; have y4 := y3.trans hx4) | (go_at_call 17; with_reducible refine (HH.out.2.2.1 _ y4).mono ?_; rintro e w5 ⟨rfl, hx5⟩; have y5 := y4.trans hx5) | (go_at_call 17; with_reducible refine (HH.out.2.2.2 _ y5).mono ?_; rintro e w6 ⟨rfl, hx6⟩; have y6 := y5.trans hx6) | (go_at_call 18; with_reducible refine (HF.out.2.2.2.1 _ _ _ (HR3.out.ext (hx4.trans (hx5.trans hx6))) y6).mono ?_; rintro e w7 ⟨rfl, hx7⟩; have y7 := y6.trans hx7) | (go_at_call 19; with_reducible refine (HF.out.1 _ y7).mono ?_; rintro e w8 ⟨p8, c8, rfl, hr8, hx8⟩; have y8 := y7.trans hx8; have HR8 := Lib.hid hr8; clear hr8) | (go_at_call 19; with_reducible refine (HF.out.2.1 _ y8).mono ?_; rintro e w9 ⟨p9, c9, rfl, hr9, hx9⟩; have y9 := y8.trans hx9; have HR9 := Lib.hid hr9; clear hr9) | (go_at_call 18; with_reducible refine (HF.out.2.2.2.2 _ _ _ _ _ (HR8.out.ext hx9) HR9.out).mono ?_; rintro e w10 ⟨rfl, hx10⟩; have y10 := y9.trans hx10) | (go_at_call 16; with_reducible refine (HF.out.2.2.1 _ y10).mono ?_; rintro e w11 ⟨p11, c11, rfl, hx11⟩; have y11 := y10.trans hx11))
            refine wp_region_ext [0, 1, 2, 3, 4, 5, 6, 7, 8] [] (by kernel_rfl) (by kernel_rfl) ?_
            simp only [List.filterMap_cons, List.filterMap_nil, List.getElem?_cons_succ, List.getElem?_cons_zero]
            repeat (first | ((with_reducible refine wpFr_yes ?hw ?_); (case hw => rfl); intro K hK; go_simp; (first | (refine hK _ ?_; clear hK K) | (apply Exists.intro; refine ⟨fun x => ?_, hK _ ?_⟩; (fail); clear hK K))) | ((with_reducible refine wpFr_not ?hw ?_); (case hw => rfl); intro K hK; go_simp; (refine hK _ ?_; clear hK K)))
            refine wpFr_nil ?_
            refine wpTl_nil fun x hxx => ?_
            go_wp2
            go_ret
            exact ⟨rfl, y11.trans hxx⟩
        · have f1 := fun W (hW : Ext w W) => prefer_full vo va vb o a b W (ho.ext hW) (ha.ext hW) (hb.ext hW) true hR2 (by omega)
          have f2 := fun W (hW : Ext w W) => prefer_full vo vb va o b a W (ho.ext hW) (hb.ext hW) (ha.ext hW) false hR3 (by rw [← hT]; omega)
          have t0 : ∀ W, Calls Try.prog 18 #[.slice none 0 0, .slice none 0 0] W fun e w' => e = .returned (.bool true) ∧ Ext W w' := fun W => by
            have := triples_any (.slice none 0 0) (.slice none 0 0) [] [] W (OwnSet.nil 0 W).reads (OwnSet.nil 0 W).reads
            rw [decide_eq_true rfl] at this
            exact this
          by_cases hc : (mCl o a b).length = 0
          · have m2 := fun W (hW : Ext w W) => merge_full vo va vb o a b W (ho.ext hW) (ha.ext hW) (hb.ext hW) hR2 hc (by omega)
            obtain ⟨po, co, rfl⟩ := ho.slice
            obtain ⟨pa, ca, rfl⟩ := ha.slice
            obtain ⟨pb, cb, rfl⟩ := hb.slice
            have HH := Lib.hid (And.intro m1 (And.intro so (And.intro sa sb)))
            have HF := Lib.hid (And.intro f1 (And.intro f2 (And.intro m2 (And.intro t1 t0))))
            clear m1 so sa sb hR hR2 hR3 ho ha hb eo ea eb oka hT t1 t2 hn hc f1 f2 m2
            go_enter Try.func5, Try.ntmps5
            go_upto_region 17 with (first | (go_at_call 9; refine (HA.out.1 _).mono ?_; rintro e w1 ⟨p1, c1, rfl, hr1, hx1⟩; have HM1 := Lib.hid hr1; clear hr1) | (go_at_call 15; refine (HA.out.2 _ _ _ HM1.out).mono ?_; rintro e w2 ⟨g, c, rfl, hg, hx2⟩) | (go_at_call 16; with_reducible refine (HH.out.1 _ (hx1.trans hx2)).mono ?_; rintro e w3 ⟨p3, c3, rfl, hr3, hx3⟩; have y3 := (hx1.trans hx2).trans hx3; have HR3 := Lib.hid hr3; clear hr3) | (go_at_call 17; with_reducible refine (HH.out.2.1 _ y3).mono ?_; rintro e w4 ⟨rfl, hx4⟩; have y4 := y3.trans hx4) | (go_at_call 17; with_reducible refine (HH.out.2.2.1 _ y4).mono ?_; rintro e w5 ⟨rfl, hx5⟩; have y5 := y4.trans hx5) | (go_at_call 17; with_reducible refine (HH.out.2.2.2 _ y5).mono ?_; rintro e w6 ⟨rfl, hx6⟩; have y6 := y5.trans hx6) | (go_at_call 18; with_reducible refine (HF.out.2.2.2.1 _ _ _ (HR3.out.ext (hx4.trans (hx5.trans hx6))) y6).mono ?_; rintro e w7 ⟨rfl, hx7⟩; have y7 := y6.trans hx7) | (go_at_call 19; with_reducible refine (HF.out.1 _ y7).mono ?_; rintro e w8 ⟨rfl, hx8⟩; have y8 := y7.trans hx8) | (go_at_call 19; with_reducible refine (HF.out.2.1 _ y8).mono ?_; rintro e w9 ⟨rfl, hx9⟩; have y9 := y8.trans hx9) | (go_at_call 18; with_reducible refine (HF.out.2.2.2.2 _).mono ?_; rintro e w10 ⟨rfl, hx10⟩; have y10 := y9.trans hx10) | (go_at_call 16; with_reducible refine (HF.out.2.2.1 _ y10).mono ?_; rintro e w11 ⟨rfl, hx11⟩; have y11 := y10.trans hx11))
            refine wp_region_ext [0, 1, 2, 3, 4, 5, 6, 7, 8] [] (by kernel_rfl) (by kernel_rfl) ?_
            simp only [List.filterMap_cons, List.filterMap_nil, List.getElem?_cons_succ, List.getElem?_cons_zero]
            repeat (first | ((with_reducible refine wpFr_yes ?hw ?_); (case hw => rfl); intro K hK; go_simp; (first | (refine hK _ ?_; clear hK K) | (apply Exists.intro; refine ⟨fun x => ?_, hK _ ?_⟩; (fail); clear hK K))) | ((with_reducible refine wpFr_not ?hw ?_); (case hw => rfl); intro K hK; go_simp; (refine hK _ ?_; clear hK K)))
            refine wpFr_nil ?_
            refine wpTl_nil fun x hxx => ?_
            go_wp2
            go_ret
            exact ⟨rfl, y11.trans hxx⟩
          · have m2 := fun W (hW : Ext w W) => merge_clash vo va vb o a b W (ho.ext hW) (ha.ext hW) (hb.ext hW) hR2 (by omega)
            generalize mCl o a b = C at m2 hc
            obtain ⟨po, co, rfl⟩ := ho.slice
            obtain ⟨pa, ca, rfl⟩ := ha.slice
            obtain ⟨pb, cb, rfl⟩ := hb.slice
            have HH := Lib.hid (And.intro m1 (And.intro so (And.intro sa sb)))
            have HF := Lib.hid (And.intro f1 (And.intro f2 (And.intro m2 (And.intro t1 t0))))
            clear m1 so sa sb hR hR2 hR3 ho ha hb eo ea eb oka hT t1 t2 hn hc f1 f2 m2
            go_enter Try.func5, Try.ntmps5
            go_upto_region 17 with (first | (go_at_call 9; refine (HA.out.1 _).mono ?_; rintro e w1 ⟨p1, c1, rfl, hr1, hx1⟩; have HM1 := Lib.hid hr1; clear hr1) | (go_at_call 15; refine (HA.out.2 _ _ _ HM1.out).mono ?_; rintro e w2 ⟨g, c, rfl, hg, hx2⟩) | (go_at_call 16; with_reducible refine (HH.out.1 _ (hx1.trans hx2)).mono ?_; rintro e w3 ⟨p3, c3, rfl, hr3, hx3⟩; have y3 := (hx1.trans hx2).trans hx3; have HR3 := Lib.hid hr3; clear hr3) | (go_at_call 17; with_reducible refine (HH.out.2.1 _ y3).mono ?_; rintro e w4 ⟨rfl, hx4⟩; have y4 := y3.trans hx4) | (go_at_call 17; with_reducible refine (HH.out.2.2.1 _ y4).mono ?_; rintro e w5 ⟨rfl, hx5⟩; have y5 := y4.trans hx5) | (go_at_call 17; with_reducible refine (HH.out.2.2.2 _ y5).mono ?_; rintro e w6 ⟨rfl, hx6⟩; have y6 := y5.trans hx6) | (go_at_call 18; with_reducible refine (HF.out.2.2.2.1 _ _ _ (HR3.out.ext (hx4.trans (hx5.trans hx6))) y6).mono ?_; rintro e w7 ⟨rfl, hx7⟩; have y7 := y6.trans hx7) | (go_at_call 19; with_reducible refine (HF.out.1 _ y7).mono ?_; rintro e w8 ⟨rfl, hx8⟩; have y8 := y7.trans hx8) | (go_at_call 19; with_reducible refine (HF.out.2.1 _ y8).mono ?_; rintro e w9 ⟨rfl, hx9⟩; have y9 := y8.trans hx9) | (go_at_call 18; with_reducible refine (HF.out.2.2.2.2 _).mono ?_; rintro e w10 ⟨rfl, hx10⟩; have y10 := y9.trans hx10) | (go_at_call 16; with_reducible refine (HF.out.2.2.1 _ y10).mono ?_; rintro e w11 ⟨p11, c11, rfl, hx11⟩; have y11 := y10.trans hx11))
            refine wp_region_ext [0, 1, 2, 3, 4, 5, 6, 7, 8] [] (by kernel_rfl) (by kernel_rfl) ?_
            simp only [List.filterMap_cons, List.filterMap_nil, List.getElem?_cons_succ, List.getElem?_cons_zero]
            repeat (first | ((with_reducible refine wpFr_yes ?hw ?_); (case hw => rfl); intro K hK; go_simp; (first | (refine hK _ ?_; clear hK K) | (apply Exists.intro; refine ⟨fun x => ?_, hK _ ?_⟩; (fail); clear hK K))) | ((with_reducible refine wpFr_not ?hw ?_); (case hw => rfl); intro K hK; go_simp; (refine hK _ ?_; clear hK K)))
            refine wpFr_nil ?_
            refine wpTl_nil fun x hxx => ?_
            go_wp2
            go_ret
            exact ⟨rfl, y11.trans hxx⟩
end Go.Proofs.Ytmobdmljbbckiaa
