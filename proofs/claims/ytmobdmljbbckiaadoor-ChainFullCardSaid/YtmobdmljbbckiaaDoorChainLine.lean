/- Layers along a line of growing sets, in plain mathematics. -/
import Derived.Test.YtmobdmljbbckiaaDoorChainSquash
import Derived.Test.YtmobdmljbbckiaaDoorMany
namespace Go.Proofs.YtmobdmljbbckiaaDoor

theorem applyL_of {a b : List Tr} (hb : SetOk b) : applyL a (lyOf a b) = b := by
  refine Rises.ext law_cmpTr (unionL_rises law_cmpTr _ _) hb.2.2 fun x => ?_
  simp only [applyL, mem_unionL, mem_partL, mem_lyOf, decide_eq_false_iff_not]
  by_cases h1 : x ∈ a <;> by_cases h2 : x ∈ b <;> simp [h1, h2]
theorem applyErr_of {a b : List Tr} (ha : SetOk a) (hb : SetOk b) : applyErr a (lyOf a b) = none := by
  unfold applyErr
  rw [(setErr_none_iff _).2 ha, lyErr_of ha hb, applyL_of hb, if_neg, if_neg, if_neg]
  · rfl
  · have := hb.1; omega
  · intro h
    obtain ⟨x, hx⟩ := List.exists_mem_of_length_pos h
    have h1 := (mem_partL _ _ _ _).1 hx
    have h2 := (mem_lyOf a b x).2.1 h1.1
    simp at h1
    exact h1.2 h2.1
  · exact partL_len0 _ _ fun x h1 h2 => ((mem_lyOf a b x).1.1 h1).2 h2
theorem many_ok40 : ∀ n, n < 41 → setErr (manyL n) = none := by decide +kernel
theorem manyL_ok (n : Nat) (h : n ≤ 40) : SetOk (manyL n) := (setErr_none_iff _).1 (many_ok40 n (by omega))
theorem lineLen : ∀ t, t < 31 → ∀ f, f < 31 → f ≤ t → (lyOf (manyL f) (manyL t)).add.length = t - f ∧ (lyOf (manyL f) (manyL t)).take.length = 0 := by decide +kernel
theorem lineOne : ∀ i, i < 40 → lyOf (manyL i) (manyL (i + 1)) = ⟨[⟨⟨1, ⟨#[115]⟩, noText⟩, ⟨1, ⟨#[112]⟩, noText⟩, textTm i⟩], []⟩ := by decide +kernel
def lineYs (k : Nat) : List Ly := (List.range k).map fun i => lyOf (manyL i) (manyL (i + 1))
theorem lineYs_succ (k : Nat) : lineYs (k + 1) = lineYs k ++ [lyOf (manyL k) (manyL (k + 1))] := by simp [lineYs, List.range_succ]
theorem lineYs_len (k : Nat) : (lineYs k).length = k := by simp [lineYs]
theorem graphL_line : ∀ k, k ≤ 40 → graphL [] (lineYs k) = manyL k
  | 0, _ => rfl
  | k + 1, h => by rw [lineYs_succ, graphL_snoc, graphL_line k (by omega), applyL_of (manyL_ok _ h)]
theorem lineYs_ok (k : Nat) (h : k ≤ 40) : ∀ y ∈ lineYs k, lyErr y = none := by
  intro y hy
  unfold lineYs at hy
  obtain ⟨i, hi, rfl⟩ := List.mem_map.1 hy
  have := List.mem_range.1 hi
  exact lyErr_of (manyL_ok _ (by omega)) (manyL_ok _ (by omega))
theorem lineYs_getD (k j : Nat) (h : j < k) : (lineYs k).getD j ⟨[], []⟩ = lyOf (manyL j) (manyL (j + 1)) := by simp [lineYs, List.getD, h]
end Go.Proofs.YtmobdmljbbckiaaDoor
