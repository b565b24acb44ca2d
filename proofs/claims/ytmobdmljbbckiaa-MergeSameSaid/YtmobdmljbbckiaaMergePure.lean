/- A merge of two sides, in plain mathematics. -/
import Derived.Test.YtmobdmljbbckiaaSideAt
import Derived.Test.YtmobdmljbbckiaaCkCompare
namespace Go.Proofs.Ytmobdmljbbckiaa

def mineL (first : Bool) (o x y : List Tr) : List Tr := if o = x then y else if o = y ∨ x = y then x else if first then x else y
def isCl (o x y : List Tr) : Bool := decide (¬ o = x ∧ ¬ o = y ∧ ¬ x = y)
def outL (first : Bool) (base a b : List Tr) (K : List Ck) : List Tr := K.flatMap fun k => mineL first (grp k base) (grp k a) (grp k b)
def clL (base a b : List Tr) (K : List Ck) : List Ck := K.filter fun k => isCl (grp k base) (grp k a) (grp k b)
/-- the pairs of three sides, rising -/
def Pairs3 (base a b : List Tr) (K : List Ck) : Prop := (∀ k, k ∈ K ↔ (∃ t ∈ base, ckOf t = k) ∨ (∃ t ∈ a, ckOf t = k) ∨ (∃ t ∈ b, ckOf t = k)) ∧ Rises cmpCk K
theorem mineL_len (first : Bool) (o x y : List Tr) : (mineL first o x y).length ≤ x.length + y.length := by
  unfold mineL
  split
  · omega
  · split
    · omega
    · split <;> omega
theorem Pairs3.unique {base a b : List Tr} {K K' : List Ck} (h : Pairs3 base a b K) (h' : Pairs3 base a b K') : K = K' := Rises.ext law_cmpCk h.2 h'.2 fun x => (h.1 x).trans (h'.1 x).symm
theorem outL_snoc (first : Bool) (base a b : List Tr) (K : List Ck) (k : Ck) : outL first base a b (K ++ [k]) = outL first base a b K ++ mineL first (grp k base) (grp k a) (grp k b) := by simp [outL]
theorem clL_snoc (base a b : List Tr) (K : List Ck) (k : Ck) : clL base a b (K ++ [k]) = if isCl (grp k base) (grp k a) (grp k b) then clL base a b K ++ [k] else clL base a b K := by
  unfold clL
  rw [List.filter_append]
  by_cases h : isCl (grp k base) (grp k a) (grp k b) = true
  · rw [if_pos h]; simp [h]
  · rw [if_neg h]; simp [h]
end Go.Proofs.Ytmobdmljbbckiaa
