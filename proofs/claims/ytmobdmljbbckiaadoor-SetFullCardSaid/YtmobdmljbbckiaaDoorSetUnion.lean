/- set.Union. -/
import Derived.Test.YtmobdmljbbckiaaDoorSortTr
import Derived.Test.YtmobdmljbbckiaaDoorCompactTr
import Derived.Test.YtmobdmljbbckiaaDoorConcatTr
namespace Go.Proofs.YtmobdmljbbckiaaDoor
open Go.RowKit
set_option maxHeartbeats 1600000
set_option maxRecDepth 100000

theorem readsSets_new (w : World) (vs : List Value) (ls : List (List Tr)) (hl : vs.length = ls.length) (hn : vs.length ≤ 1000) (h : ∀ j (h : j < vs.length) (h' : j < ls.length), Reads encTr w vs[j] ls[j]) :
    ReadsSets (w.alloc (.cells vs.toArray 22)) (.slice (some ⟨w.heap.size, 0, none⟩) vs.length vs.length) ls := by
  refine ⟨vs, hl, ⟨_, vs.length, rfl, Nat.le_refl _, by unfold maxLen; omega, fun _ => ⟨_, 0, rfl, fun i u hi => ?_⟩⟩, fun j h1 h2 => (h j h1 h2).ext ((Ext.refl w).alloc _)⟩
  have := cells_new w vs.toArray 22 w.heap.size rfl i u (by simpa [List.flatMap_singleton'] using hi)
  rw [Go.WideShapes.add_plain] at this
  exact this

theorem union_any (va vb : Value) (a b : List Tr) (w : World) (ha : Reads encTr w va a) (hb : Reads encTr w vb b) (hn : a.length + b.length ≤ 100000) :
    Calls Tryd.prog 18 #[va, vb] w fun e w' => ∃ v', e = .returned v' ∧ w'.ownsRow w.heap.size 28 9 v' (unionL cmpTr a b).length ((unionL cmpTr a b).flatMap encTr) ∧ Ext w w' := by
  have hx := (Ext.refl w).alloc (.cells #[va, vb] 22)
  have hR := readsSets_new w [va, vb] [a, b] rfl (by simp) (fun j h h' => by
    match j, h with
    | 0, _ => exact ha
    | 1, _ => exact hb)
  have hcc := concat_any _ [a, b] _ hR (by simp [totTo]; omega)
  have hfl : [a, b].flatten = a ++ b := by simp
  rw [hfl] at hcc
  have hcc' : Calls Tryd.prog 30 #[.slice (some ⟨w.heap.size, 0, none⟩) 2 2] (w.alloc (.cells #[va, vb] 22)) fun e w' => ∃ v', e = .returned v' ∧ w'.ownsRow w.heap.size 28 9 v' (a ++ b).length ((a ++ b).flatMap encTr) ∧ Ext w w' :=
    hcc.mono fun e w' ⟨v', h1, h2, h3⟩ => ⟨v', h1, own_mono h2 hx.size, hx.trans h3⟩
  have hso : ∀ v1 w1, w1.ownsRow w.heap.size 28 9 v1 (a ++ b).length ((a ++ b).flatMap encTr) → Ext w w1 → Calls Tryd.prog 31 #[v1, .func (.func 32) #[] #[]] w1 fun e w' => e = .returned (.tuple #[]) ∧ w'.ownsRow w.heap.size 28 9 v1 (sortL cmpTr (a ++ b)).length ((sortL cmpTr (a ++ b)).flatMap encTr) ∧ Ext w w' := fun v1 w1 ho h1 =>
    (sortFunc_tr v1 (a ++ b) w1 w.heap.size ho h1.size (by simp; omega)).mono fun e w' ⟨h2, h3, h4⟩ => ⟨h2, by rw [(sortL_perm cmpTr (a ++ b)).length_eq]; exact h3, Below.trans h1 h4⟩
  have hco : ∀ v1 w1, w1.ownsRow w.heap.size 28 9 v1 (sortL cmpTr (a ++ b)).length ((sortL cmpTr (a ++ b)).flatMap encTr) → Ext w w1 → Calls Tryd.prog 33 #[v1] w1 fun e w' => ∃ v', e = .returned v' ∧ w'.ownsRow w.heap.size 28 9 v' (unionL cmpTr a b).length ((unionL cmpTr a b).flatMap encTr) ∧ Ext w w' := fun v1 w1 ho h1 =>
    (compact_tr v1 _ w1 w.heap.size ho h1.size (by rw [(sortL_perm cmpTr (a ++ b)).length_eq]; simp; omega)).mono fun e w' ⟨v', h2, h3, h4⟩ => ⟨v', h2, h3, Below.trans h1 h4⟩
  have HH := Lib.hid (And.intro hcc' (And.intro hso hco))
  obtain ⟨aa, ca, rfl, _⟩ := ha
  obtain ⟨ab, cb, rfl, _⟩ := hb
  clear hcc hcc' hso hco hR hfl hx
  go_enter Tryd.func18, Tryd.ntmps18
  go_wp2_with (first | (go_at_call 30; refine HH.out.1.mono ?_; rintro e w1 ⟨v1, rfl, ho1, hx1⟩) | (go_at_call 31; refine (HH.out.2.1 _ _ ho1 hx1).mono ?_; rintro e w2 ⟨rfl, ho2, hx2⟩) | (go_at_call 33; refine (HH.out.2.2 _ _ ho2 hx2).mono ?_; rintro e w3 ⟨v3, rfl, ho3, hx3⟩))
  go_ret
  exact ⟨_, rfl, ho3, hx3⟩
end Go.Proofs.YtmobdmljbbckiaaDoor
