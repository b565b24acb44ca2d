/- layer.Apply. -/
import Derived.Test.YtmobdmljbbckiaaDoorLayerThen
namespace Go.Proofs.YtmobdmljbbckiaaDoor
open Go.RowKit
set_option maxHeartbeats 3200000
set_option maxRecDepth 100000

/-- a layer laid on a set -/
def applyL (g : List Tr) (y : Ly) : List Tr := unionL cmpTr (partL g y.take false) y.add
/-- what is wrong with that -/
def applyErr (g : List Tr) (y : Ly) : Option Int := (setErr g).or ((lyErr y).or (if (partL y.add g true).length > 0 then some 7 else if (partL y.take g false).length > 0 then some 5 else if (applyL g y).length > 200 then some 4 else none))

theorem right_one (va : Value) (a : List Tr) (w : World) (ha : Reads encTr w va a) (r : Option Int) (hr : setErr a = r) :
    Calls Tryd.prog 17 #[.slice (some ⟨w.heap.size, 0, none⟩) 1 1] (w.alloc (.cells #[va] 22)) fun e w' => e = .returned (errV r) ∧ Ext w w' := by
  have h := right_any _ [a] _ (readsSets_new w [va] [a] rfl (by simp) (fun j h h' => by
    match j, h with
    | 0, _ => exact ha))
  have hr' : rightErr [a] = r := by unfold rightErr rightErr; rw [hr]; cases r <;> rfl
  rw [hr'] at h
  exact h.mono fun e w' ⟨h1, h2⟩ => ⟨h1, ((Ext.refl w).alloc _).trans h2⟩

theorem applyErr_none {g : List Tr} {y : Ly} (h : applyErr g y = none) : SetOk g ∧ lyErr y = none ∧ (partL y.add g true).length = 0 ∧ (partL y.take g false).length = 0 ∧ (applyL g y).length ≤ 200 := by
  unfold applyErr at h
  cases h1 : setErr g with
  | some n => rw [h1] at h; cases h
  | none =>
    cases h2 : lyErr y with
    | some n => rw [h1, h2] at h; cases h
    | none =>
      rw [h1, h2] at h
      refine ⟨(setErr_none_iff _).1 h1, rfl, ?_⟩
      by_cases g1 : (partL y.add g true).length > 0
      · rw [if_pos g1] at h; cases h
      · rw [if_neg g1] at h
        by_cases g2 : (partL y.take g false).length > 0
        · rw [if_pos g2] at h; cases h
        · rw [if_neg g2] at h
          by_cases g3 : (applyL g y).length > 200
          · rw [if_pos g3] at h; cases h
          · omega

/-- what the operations of a 'without these, with those' leave -/
def applyR (B : Nat) (P U : List Tr) (i : Nat) (v : Value) (W : World) : Prop :=
  match i with
  | 3 => SetVal B W v P
  | 6 => SetVal B W v U
  | _ => True
theorem applyR_ext (B : Nat) (P U : List Tr) (i : Nat) (v : Value) (w w' : World) (h : applyR B P U i v w) (hx : Ext w w') : applyR B P U i v w' := by
  unfold applyR at *
  split at h <;> first | exact SetVal.ext h hx | trivial

theorem apply_ok (vg va vt : Value) (g : List Tr) (y : Ly) (w : World) (hg : Reads encTr w vg g) (ha : Reads encTr w va y.add) (ht : Reads encTr w vt y.take) (h : applyErr g y = none) :
    Calls Tryd.prog 24 #[vg, .agg #[va, vt]] w fun e w' => ∃ p c, e = .returned (.tuple #[.slice p (applyL g y).length c, .nilIface]) ∧ OwnSet w.heap.size w' (.slice p (applyL g y).length c) (applyL g y) ∧ Ext w w' := by
  obtain ⟨sg, ey, e1, e2, e3⟩ := applyErr_none h
  obtain ⟨sa, st⟩ := lyErr_none ey
  have b1 : g.length ≤ 100000 := Nat.le_trans sg.1 (by decide)
  have b2 : y.add.length ≤ 100000 := Nat.le_trans sa.1 (by decide)
  have b3 : y.take.length ≤ 100000 := Nat.le_trans st.1 (by decide)
  have hright := fun W (hW : Ext w W) => right_one vg g W (hg.ext hW) none ((setErr_none_iff _).2 sg)
  have hcheck : ∀ W, Ext w W → Calls Tryd.prog 41 #[.agg #[va, vt]] W fun e w' => e = .returned .nilIface ∧ Ext W w' := fun W hW => by
    have := layerCheck_any va vt y W (ha.ext hW) (ht.ext hW); rw [ey] at this; exact this
  have hp1 : ∀ W, Ext w W → Calls Tryd.prog 42 #[va, vg, .bool true] W fun e w' => ∃ p c, e = .returned (.slice p 0 c) ∧ Ext W w' := fun W hW =>
    (part_own va vg y.add g true W (ha.ext hW) (hg.ext hW) sg.2.2 b2 b1).mono fun e w' ⟨p, c, g1, _, g2⟩ => ⟨p, c, by rw [e1] at g1; exact g1, g2⟩
  have hp2 : ∀ W, Ext w W → Calls Tryd.prog 42 #[vt, vg, .bool false] W fun e w' => ∃ p c, e = .returned (.slice p 0 c) ∧ Ext W w' := fun W hW =>
    (part_own vt vg y.take g false W (ht.ext hW) (hg.ext hW) sg.2.2 b3 b1).mono fun e w' ⟨p, c, g1, _, g2⟩ => ⟨p, c, by rw [e2] at g1; exact g1, g2⟩
  have hp3 := fun W (hW : Ext w W) => part_own vg vt g y.take false W (hg.ext hW) (ht.ext hW) st.2.2 b1 b3
  have l1 : (partL g y.take false).length ≤ 50000 := Nat.le_trans (partL_length_le _ _ _) (Nat.le_trans sg.1 (by decide))
  have l2 : y.add.length ≤ 50000 := Nat.le_trans sa.1 (by decide)
  have f1 : applyL g y = unionL cmpTr (partL g y.take false) y.add := rfl
  rw [f1] at e3 ⊢
  generalize partL g y.take false = P at hp3 l1 e3 ⊢
  have hu := fun W v (hW : Ext w W) (hv : Reads encTr W v P) => union_own v va P y.add W hv (ha.ext hW) (by omega)
  generalize unionL cmpTr P y.add = U at hu e3 ⊢
  obtain ⟨ag, cg, rfl⟩ := hg.slice
  obtain ⟨aa, ca, rfl⟩ := ha.slice
  obtain ⟨at', ct, rfl⟩ := ht.slice
  have hx0 := (Ext.refl w).alloc (.cells #[.slice aa y.add.length ca, .slice at' y.take.length ct] 43)
  have hb0 := alloc_heap_new w (.cells #[.slice aa y.add.length ca, .slice at' y.take.length ct] 43)
  dsimp only [errV] at hright
  obtain ⟨B, hB⟩ : ∃ B, B = w.heap.size := ⟨_, rfl⟩
  have HB := Lib.hid hB
  have HH := Lib.hid (And.intro hright (And.intro hcheck (And.intro hp1 (And.intro hp2 (And.intro hp3 hu)))))
  clear hright hcheck hp1 hp2 hp3 hu hB h sg ey e1 e2 sa st b1 b2 b3 l1 l2 f1 hg ha ht
  go_enter Tryd.func24, Tryd.ntmps24
  go_upto_region 1 with fail
  generalize hwb : World.alloc w _ = wb at hx0 hb0 ⊢
  clear hwb
  go_upto_region 4 with (go_at_call 17; refine (HH.out.1 _ hx0).mono ?_; rintro e w1 ⟨rfl, hx1⟩)
  have A := cells_at (heap_ext hx1 hb0)
  go_upto_region 7 with (go_at_call 41; refine (HH.out.2.1 _ (hx0.trans hx1)).mono ?_; rintro e w2 ⟨rfl, hx2⟩)
  have hxa := (hx0.trans hx1).trans hx2
  replace hb0 := heap_ext (hx1.trans hx2) hb0
  clear A hx0 hx1 hx2
  have A := cells_at hb0
  go_upto_region 9 with (go_at_call 42; refine (HH.out.2.2.1 _ hxa).mono ?_; rintro e w3 ⟨p3, c3, rfl, hx3⟩)
  clear A
  replace hb0 := heap_ext hx3 hb0
  have A := cells_at hb0
  go_upto_region 11 with (go_at_call 42; refine (HH.out.2.2.2.1 _ (hxa.trans hx3)).mono ?_; rintro e w4 ⟨p4, c4, rfl, hx4⟩)
  clear A
  have A := Later.cells (heap_ext hx4 hb0)
  have HX := Lib.hid ((hxa.trans hx3).trans hx4)
  clear hxa hx3 hx4 hb0
  refine wp_region_treez (Ext w4) [0, 1, 2, 4, 5] ([3, 6].length + 1) 7 (by kernel_rfl) (by kernel_rfl) (fun _ _ h k => h.trans k) (Ext.refl w4) ?_
  simp only [List.filterMap_cons, List.filterMap_nil, List.getElem?_cons_succ, List.getElem?_cons_zero]
  repeat (first | ((with_reducible refine wpFr_yes ?hw ?_); (case hw => rfl); intro K hK; go_simp; (first | (refine hK _ ?_; clear hK K) | (apply Exists.intro; refine ⟨fun x => ?_, hK _ ?_⟩; (fail); clear hK K))) | ((with_reducible refine wpFr_not ?hw ?_); (case hw => rfl); intro K hK; go_simp; (refine hK _ ?_; clear hK K)))
  refine wpFr_nil ?_
  refine wpE_steps [3, 6] (fun i => match i with | 3 => [] | 6 => [3] | _ => []) ?R rfl (by kernel_rfl) (fun _ _ h k => h.trans k) (Ext.refl w4) ?hR ?hstep ?hend
  case R => exact applyR B P U
  case hR => exact applyR_ext B P U
  case hstep =>
    simp only [stepsOk, List.getElem?_toArray, List.getElem?_cons_succ, List.getElem?_cons_zero]
    refine ⟨?s3, ?s6, trivial⟩
    case s3 =>
      intro f W hW hd
      have hwW := HX.out.trans hW
      simp only [putAll, dstOf, List.getElem?_toArray, List.getElem?_cons_succ, List.getElem?_cons_zero, Option.bind_some]
      refine opI_yes rfl ?_
      go_simp
      refine (HH.out.2.2.2.2.1 W hwW).mono ?_
      rintro e w' ⟨p, c, rfl, ho, hx⟩
      exact ⟨_, rfl, hx, ⟨p, c, rfl, ho.mono (by rw [HB.out]; exact hwW.size)⟩⟩
    case s6 =>
      intro f W hW hd
      have hwW := HX.out.trans hW
      have h3 : SetVal B W (f 3) P := hd 3 (by simp)
      obtain ⟨p3, c3, e3, o3⟩ := h3.out
      simp only [putAll, dstOf, List.getElem?_toArray, List.getElem?_cons_succ, List.getElem?_cons_zero, Option.bind_some]
      rw [e3]
      refine opI_yes rfl ?_
      go_simp
      refine (HH.out.2.2.2.2.2 W _ hwW o3.reads).mono ?_
      rintro e w' ⟨p, c, rfl, ho, hx⟩
      exact ⟨_, rfl, hx, ⟨p, c, rfl, ho.mono (by rw [HB.out]; exact hwW.size)⟩⟩
  case hend =>
    intro f W K hW hr hK
    have h6 : SetVal B W (f 6) U := hr 6 (by simp)
    obtain ⟨p6, c6, e6, o6⟩ := h6.out
    clear hr
    simp only [putAll, dstOf, List.getElem?_toArray, List.getElem?_cons_succ, List.getElem?_cons_zero, Option.bind_some]
    rw [e6]
    generalize f 3 = g3
    generalize f 6 = g6
    clear e6
    refine lastI_yes rfl ?_
    go_simp
    refine hK _ _ (fun z hz => ?_)
    clear hK K
    have HZ := Lib.hid (And.intro (o6.ext hz) ((HX.out.trans hW).trans hz))
    clear o6 hW hz A
    go_wp2
    go_ret2
    exact ⟨_, _, rfl, by rw [← HB.out]; exact HZ.out.1, HZ.out.2⟩
end Go.Proofs.YtmobdmljbbckiaaDoor
