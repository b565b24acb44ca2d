/- The law MergeSame, in plain mathematics. -/
import Derived.Test.YtmobdmljbbckiaaMergePure
import Derived.Test.YtmobdmljbbckiaaLayerPure
namespace Go.Proofs.Ytmobdmljbbckiaa
open Go.RowKit
set_option maxRecDepth 100000

def pairsOf (o a b : List Tr) : List Ck := compact (sortL cmpCk ((o ++ a ++ b).map ckOf))
theorem pairsOf_ok (o a b : List Tr) : Pairs3 o a b (pairsOf o a b) := by
  refine ⟨fun k => ?_, compact_rises law_cmpCk (sortL_le law_cmpCk _)⟩
  unfold pairsOf
  rw [mem_compact, (sortL_perm cmpCk _).mem_iff]
  simp only [List.map_append, List.mem_append, List.mem_map, or_assoc]
theorem Pairs3.eq {o a b : List Tr} {K : List Ck} (h : Pairs3 o a b K) : K = pairsOf o a b := h.unique (pairsOf_ok o a b)
theorem Pairs3.swap {o a b : List Tr} {K : List Ck} (h : Pairs3 o a b K) : Pairs3 o b a K := ⟨fun k => (h.1 k).trans (or_congr Iff.rfl or_comm), h.2⟩
def mOut (first : Bool) (o a b : List Tr) : List Tr := outL first o a b (pairsOf o a b)
def mCl (o a b : List Tr) : List Ck := clL o a b (pairsOf o a b)

theorem cmp_ck_tr {t u : Tr} (h : cmpCk (ckOf t) (ckOf u) < 0) : cmpTr t u < 0 := by
  rw [cmpCk, orI2] at h
  rw [cmpTr, orI3]
  unfold or2 ckOf at *
  dsimp only at h
  by_cases h1 : cmpTm t.s u.s ≠ 0
  · rw [if_pos h1] at h ⊢; exact h
  · rw [if_neg h1] at h ⊢
    rw [if_pos (by omega)]; exact h
theorem flat_grp {a : List Tr} {K : List Ck} (ha : Rises cmpTr a) (hK : Rises cmpCk K) (hall : ∀ t ∈ a, ckOf t ∈ K) : K.flatMap (fun k => grp k a) = a := by
  refine Rises.ext law_cmpTr ?_ ha fun t => ?_
  · unfold Rises
    rw [List.pairwise_flatMap]
    refine ⟨fun k _ => List.Pairwise.sublist List.filter_sublist ha, List.Pairwise.imp (fun {k k'} hkk x hx y hy => ?_) hK⟩
    have h1 := (mem_grp.1 hx).2
    have h2 := (mem_grp.1 hy).2
    exact cmp_ck_tr (by rw [h1, h2]; exact hkk)
  · rw [List.mem_flatMap]
    constructor
    · rintro ⟨k, _, hk⟩; exact (mem_grp.1 hk).1
    · intro ht; exact ⟨ckOf t, hall t ht, mem_grp.2 ⟨ht, rfl⟩⟩
theorem mOut_same {o a : List Tr} (ha : Rises cmpTr a) : mOut true o a a = a := by
  unfold mOut outL
  have e : (fun k => mineL true (grp k o) (grp k a) (grp k a)) = fun k => grp k a := by
    funext k
    unfold mineL
    by_cases h : grp k o = grp k a
    · rw [if_pos h]
    · rw [if_neg h, if_pos (.inr rfl)]
  rw [e]
  exact flat_grp ha (pairsOf_ok o a a).2 fun t ht => ((pairsOf_ok o a a).1 _).2 (.inr (.inl ⟨t, ht, rfl⟩))
theorem mCl_same (o a : List Tr) : mCl o a a = [] := by
  unfold mCl clL
  rw [List.filter_eq_nil_iff]
  intro k _
  simp [isCl]
theorem mOut_turn (o a b : List Tr) : mOut true o a b = mOut false o b a := by
  unfold mOut outL
  rw [← (pairsOf_ok o a b).swap.eq]
  congr 1
  funext k
  generalize grp k o = O
  generalize grp k a = X
  generalize grp k b = Y
  unfold mineL
  by_cases h1 : O = X
  · subst h1
    by_cases h2 : O = Y
    · subst h2; simp
    · simp [h2]
  · by_cases h2 : O = Y
    · subst h2; simp [h1]
    · by_cases h3 : X = Y
      · subst h3; simp [h1]
      · simp [h1, h2, h3, Ne.symm h3]
theorem tmKey_of {t : Tm} (h : tmErr t = none) : TmKey t := by
  unfold tmErr at h
  split at h
  · cases h
  · rename_i h1
    split at h
    · cases h
    · rename_i h2
      split at h
      · cases h
      · split at h
        · cases h
        · rename_i h4
          refine ⟨?_, by unfold maxLen; omega, ?_⟩
          · have : 1 ≤ t.kind ∧ t.kind ≤ 3 := by omega
            rcases (by omega : t.kind = 1 ∨ t.kind = 2 ∨ t.kind = 3) with e | e | e <;> rw [e] <;> rfl
          · by_cases h5 : t.lang.size = 2
            · rw [h5]; decide
            · have h6 : (bytesOf t.lang).isEmpty = true := by
                cases h7 : (bytesOf t.lang).isEmpty with
                | true => rfl
                | false =>
                  refine absurd ?_ h4
                  unfold langBad
                  rw [h7, show decide (t.lang.size ≠ 2) = true from decide_eq_true h5]
                  cases decide (t.kind ≠ 3) <;> rfl
              have : t.lang.size = 0 := by
                have h8 : t.lang.data.toList = [] := List.isEmpty_iff.1 h6
                show t.lang.data.size = 0
                rw [← Array.length_toList, h8]
                rfl
              omega
theorem ckKey_of {t : Tr} (h : trErr t = none) : CkKey (ckOf t) := by
  unfold trErr at h
  cases h1 : tmErr t.s with
  | some n => rw [h1] at h; cases h
  | none =>
    cases h2 : tmErr t.p with
    | some n => rw [h1, h2] at h; cases h
    | none => exact ⟨tmKey_of h1, tmKey_of h2⟩
theorem rightErr3 {o a b : List Tr} (h : rightErr [o, a, b] = none) : SetOk o ∧ SetOk a ∧ SetOk b := by
  unfold rightErr at h
  cases h1 : setErr o with
  | some e => rw [h1] at h; cases h
  | none =>
    rw [h1] at h
    exact ⟨(setErr_none_iff _).1 h1, betweenErr_none h⟩
end Go.Proofs.Ytmobdmljbbckiaa
