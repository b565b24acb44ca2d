/- slices.SortFunc at pairs. -/
import Derived.Test.YtmobdmljbbckiaaSortLayCk
import Derived.Test.YtmobdmljbbckiaaSortGen
import Derived.Test.YtmobdmljbbckiaaCkCompare
namespace Go.Proofs.Ytmobdmljbbckiaa
open Go.RowKit Go.Sort Go.Shelf
set_option maxHeartbeats 1600000
set_option maxRecDepth 100000

theorem ckCompare_enters : ∀ args w, (callFunc 86 args).run Try.prog w = .ok (.enter 86 args) w := enters_of Try.func86 (by kernel_rfl) rfl
theorem encCk6 : ∀ t : Ck, (encCk t).length = 6 := fun _ => rfl
theorem cmpLays_ck (blk off size : Nat) (w : World) : CmpLays Try.prog 86 #[] encCk 6 cmpCk blk off size w :=
  fun _ _ _ _ x y => (G.ckCompare_any x y _).mono fun e w' ⟨h1, q, os, h2⟩ => ⟨h1, q, os, h2⟩

theorem sortFunc_ck (v : Value) (l : List Ck) (w : World) (B : Nat) (hl : w.ownsRow B 54 6 v l.length (l.flatMap encCk)) (hB : B ≤ w.heap.size) (hn : l.length ≤ 100000) :
    Calls Try.prog 102 #[v, .func (.func 86) #[] #[]] w fun e w' => e = .returned (.tuple #[]) ∧ w'.ownsRow B 54 6 v l.length ((sortL cmpCk l).flatMap encCk) ∧ Below B w w' := by
  have hl' := hl
  obtain ⟨_, ⟨rfl, h0⟩ | ⟨g, cap, cur, rfl, hg, hcur, _⟩⟩ := hl'
  · have hnil : l = [] := List.length_eq_zero_iff.1 h0
    subst hnil
    have hc := AnyF.slices_SortFunc_none (P := Try.prog) (ρ := sortCk_ren) { sortCk with } none 0 (.func (.func 86) #[] #[]) w
    exact hc.mono fun e w' ⟨h1, h2⟩ => by subst h2; exact ⟨h1, by simpa [sortL] using hl, Below.refl _ _⟩
  · have hc := AnyQ.slices_SortFunc_total (P := Try.prog) (ρ := sortCk_ren) { sortCk with } 6 Try.isAgg54 Try.sizeOf54 encCk encCk6 (fun x v hv => by simp [encCk] at hv; rcases hv with rfl | rfl | rfl | rfl | rfl | rfl <;> rfl) cmpCk law_cmpCk.swo 86 #[] g 0 cap l.toArray w ckCompare_enters (cmpLays_ck _ _ _ _) (holdsK_own encCk6 hl) (Array.getElem?_eq_some_iff.1 hcur).1 (by simp; omega) law_cmpCk.parts
    have hc' : Calls Try.prog 102 #[.slice (some ⟨g, 0, none⟩) l.length cap, .func (.func 86) #[] #[]] w _ := hc
    refine hc'.mono fun e w' ⟨h1, n, os, h2⟩ => ?_
    have h3 := own_putRowK encCk6 hl (l' := sortL cmpCk l) ((sortL_perm cmpCk l).length_eq) n os
    rw [show sortWorldK encCk 6 w g 0 n (sortL cmpCk l).toArray os = w' from h2.symm] at h3
    exact ⟨h1, h3.1, h3.2 hB⟩
end Go.Proofs.Ytmobdmljbbckiaa
