/- Layers in plain mathematics: between two sets, one behind the other; three along a line. No program in sight. -/
import Derived.Test.YtmobdmljbbckiaaCmpPure
namespace Go.Proofs.Ytmobdmljbbckiaa

structure Ly where
  add : List Tr
  take : List Tr
  deriving DecidableEq

/-- the first that is wrong of sets -/
def rightErr : List (List Tr) → Option Int
  | [] => none
  | l :: r => (setErr l).or (rightErr r)
/-- what is wrong with a layer -/
def lyErr (l : Ly) : Option Int := (rightErr [l.add, l.take]).or (if (partL l.add l.take true).length > 0 then some 7 else none)
def lyOf (a b : List Tr) : Ly := ⟨partL b a false, partL a b false⟩
def lyBoth (x y : Ly) : Ly := ⟨unionL cmpTr (partL x.add y.take false) (partL y.add x.take false), unionL cmpTr (partL x.take y.add false) (partL y.take x.add false)⟩
/-- what is wrong with one behind the other -/
def thenErr (x y : Ly) : Option Int :=
  ((lyErr x).or (lyErr y)).or (if (partL x.add y.add true).length > 0 ∨ (partL x.take y.take true).length > 0 then some 7 else if (lyBoth x y).add.length > 200 ∨ (lyBoth x y).take.length > 200 then some 4 else none)

theorem partL_len0 (a b : List Tr) (h : ∀ x ∈ a, x ∉ b) : ¬ (partL a b true).length > 0 := by
  rw [(partL_nil_iff a b).2 h]; simp
theorem lyErr_of {a b : List Tr} (ha : SetOk a) (hb : SetOk b) : lyErr (lyOf a b) = none := by
  unfold lyErr lyOf rightErr rightErr rightErr
  dsimp only
  rw [(setErr_none_iff _).2 (hb.part a false), (setErr_none_iff _).2 (ha.part b false), if_neg (partL_len0 _ _ fun x h1 h2 => ?_)]
  · rfl
  · have a1 := (mem_partL _ _ _ _).1 h1
    have a2 := (mem_partL _ _ _ _).1 h2
    simp at a1 a2
    exact a1.2 a2.1
theorem mem_lyOf (a b : List Tr) (x : Tr) : (x ∈ (lyOf a b).add ↔ x ∈ b ∧ x ∉ a) ∧ (x ∈ (lyOf a b).take ↔ x ∈ a ∧ x ∉ b) := by
  unfold lyOf; simp [mem_partL]
theorem lyBoth_of {a b c : List Tr} (ha : SetOk a) (hc : SetOk c) : lyBoth (lyOf a b) (lyOf b c) = lyOf a c := by
  have h1 : (lyBoth (lyOf a b) (lyOf b c)).add = (lyOf a c).add := by
    refine Rises.ext law_cmpTr (unionL_rises law_cmpTr _ _) (partL_rises hc.2.2 _ _) fun x => ?_
    simp only [lyBoth, mem_unionL, mem_partL, mem_lyOf, decide_eq_false_iff_not]
    by_cases x1 : x ∈ a <;> by_cases x2 : x ∈ b <;> by_cases x3 : x ∈ c <;> simp [x1, x2, x3]
  have h2 : (lyBoth (lyOf a b) (lyOf b c)).take = (lyOf a c).take := by
    refine Rises.ext law_cmpTr (unionL_rises law_cmpTr _ _) (partL_rises ha.2.2 _ _) fun x => ?_
    simp only [lyBoth, mem_unionL, mem_partL, mem_lyOf, decide_eq_false_iff_not]
    by_cases x1 : x ∈ a <;> by_cases x2 : x ∈ b <;> by_cases x3 : x ∈ c <;> simp [x1, x2, x3]
  cases hx : lyBoth (lyOf a b) (lyOf b c) with
  | mk p q =>
    rw [hx] at h1 h2
    dsimp only at h1 h2
    rw [h1, h2]
theorem thenErr_of {a b c : List Tr} (ha : SetOk a) (hb : SetOk b) (hc : SetOk c) : thenErr (lyOf a b) (lyOf b c) = none := by
  unfold thenErr
  rw [lyErr_of ha hb, lyErr_of hb hc, lyBoth_of ha hc, if_neg, if_neg]
  · rfl
  · have h1 := (hc.part a false).1
    have h2 := (ha.part c false).1
    unfold lyOf; dsimp only; omega
  · intro h
    rcases h with h | h
    · exact partL_len0 _ _ (fun x h1 h2 => ((mem_lyOf a b x).1.1 h1).2.elim (by
        have e1 := (mem_lyOf a b x).1.1 h1
        have e2 := (mem_lyOf b c x).1.1 h2
        exact absurd e1.1 e2.2)) h
    · exact partL_len0 _ _ (fun x h1 h2 => by
        have e1 := (mem_lyOf a b x).2.1 h1
        have e2 := (mem_lyOf b c x).2.1 h2
        exact absurd e2.1 e1.2) h

/-- what is wrong with two sets -/
def betweenErr (a b : List Tr) : Option Int := rightErr [a, b]
theorem betweenErr_none {a b : List Tr} (h : betweenErr a b = none) : SetOk a ∧ SetOk b := by
  unfold betweenErr rightErr rightErr rightErr at h
  cases h1 : setErr a with
  | some e => rw [h1] at h; cases h
  | none =>
    cases h2 : setErr b with
    | some e => rw [h1, h2] at h; cases h
    | none => exact ⟨(setErr_none_iff _).1 h1, (setErr_none_iff _).1 h2⟩
end Go.Proofs.Ytmobdmljbbckiaa
