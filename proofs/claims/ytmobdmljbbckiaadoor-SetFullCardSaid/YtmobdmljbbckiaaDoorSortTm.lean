/- slices.SortFunc at terms. -/
import Derived.Test.YtmobdmljbbckiaaDoorSortLayTm
import Derived.Test.YtmobdmljbbckiaaDoorSortTr
import Derived.Test.YtmobdmljbbckiaaDoorColTm
namespace Go.Proofs.YtmobdmljbbckiaaDoor
open Go.RowKit Go.Sort Go.Shelf
set_option maxHeartbeats 1600000
set_option maxRecDepth 100000

theorem termCompare_enters : ∀ args w, (callFunc 21 args).run Tryd.prog w = .ok (.enter 21 args) w := enters_of Tryd.func21 (by kernel_rfl) rfl
theorem encTm3 : ∀ t : Tm, (encTm t).length = 3 := fun _ => rfl
theorem cmpLays_tm (blk off size : Nat) (w : World) : CmpLays Tryd.prog 21 #[] encTm 3 cmpTm blk off size w :=
  fun _ _ _ _ x y => (G.termCompare_any x y _).mono fun e w' ⟨h1, q, os, h2⟩ => ⟨h1, q, os, h2⟩

theorem sortFunc_tm (v : Value) (l : List Tm) (w : World) (B : Nat) (hl : w.ownsRow B 25 3 v l.length (l.flatMap encTm)) (hB : B ≤ w.heap.size) (hn : l.length ≤ 100000) :
    Calls Tryd.prog 35 #[v, .func (.func 21) #[] #[]] w fun e w' => e = .returned (.tuple #[]) ∧ w'.ownsRow B 25 3 v l.length ((sortL cmpTm l).flatMap encTm) ∧ Below B w w' := by
  have hl' := hl
  obtain ⟨_, ⟨rfl, h0⟩ | ⟨g, cap, cur, rfl, hg, hcur, _⟩⟩ := hl'
  · have hnil : l = [] := List.length_eq_zero_iff.1 h0
    subst hnil
    have hc := AnyF.slices_SortFunc_none (P := Tryd.prog) (ρ := sortTm_ren) { sortTm with } none 0 (.func (.func 21) #[] #[]) w
    exact hc.mono fun e w' ⟨h1, h2⟩ => by subst h2; exact ⟨h1, by simpa [sortL] using hl, Below.refl _ _⟩
  · have hc := AnyQ.slices_SortFunc_total (P := Tryd.prog) (ρ := sortTm_ren) { sortTm with } 3 Tryd.isAgg25 Tryd.sizeOf25 encTm encTm3 (fun x v hv => by simp [encTm] at hv; rcases hv with rfl | rfl | rfl <;> rfl) cmpTm law_cmpTm.swo 21 #[] g 0 cap l.toArray w termCompare_enters (cmpLays_tm _ _ _ _) (holdsK_own encTm3 hl) (Array.getElem?_eq_some_iff.1 hcur).1 (by simp; omega) law_cmpTm.parts
    have hc' : Calls Tryd.prog 35 #[.slice (some ⟨g, 0, none⟩) l.length cap, .func (.func 21) #[] #[]] w _ := hc
    refine hc'.mono fun e w' ⟨h1, n, os, h2⟩ => ?_
    have h3 := own_putRowK encTm3 hl (l' := sortL cmpTm l) ((sortL_perm cmpTm l).length_eq) n os
    rw [show sortWorldK encTm 3 w g 0 n (sortL cmpTm l).toArray os = w' from h2.symm] at h3
    exact ⟨h1, h3.1, h3.2 hB⟩
end Go.Proofs.YtmobdmljbbckiaaDoor
