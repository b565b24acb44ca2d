/- Plain law: along a line each commit's ancestors are all ahead of it, and the base of two is the elder one. -/
import Derived.Test.YtommohepbpdmdaaDagPure
namespace Go.Proofs.Ytommohepbpdmdaa
open Go.RowKit

/-- a line of n commits, and two more that come of a and of b -/
structure Line (cs : List Cm) (n a b : Nat) : Prop where
  len : cs.length = n + 2
  first : par cs 0 = []
  next : ∀ k, 1 ≤ k → k < n → par cs k = [((k : Int) - 1)]
  left : par cs n = [(a : Int)]
  right : par cs (n + 1) = [(b : Int)]

theorem line_par {cs : List Cm} {c1 c2 : Cm} {k : Nat} {a b : Int} (hlen : cs.length = k) (hP : ∀ i (hi : i < cs.length), cs[i].ps = if i = 0 then [] else [((i : Int) - 1)]) (hp1 : c1.ps = [a]) (hp2 : c2.ps = [b]) (i : Nat) :
    par (cs ++ [c1] ++ [c2]) i = if i < k then (if i = 0 then [] else [((i : Int) - 1)]) else if i = k then [a] else if i = k + 1 then [b] else [] := by
  unfold par
  by_cases h1 : i < k
  · rw [if_pos h1, List.getElem?_append_left (by simp; omega), List.getElem?_append_left (by omega), List.getElem?_eq_getElem (by omega), ← hP i (by omega)]; rfl
  · rw [if_neg h1]
    by_cases h2 : i = k
    · subst h2
      rw [if_pos rfl, List.getElem?_append_left (by simp; omega), List.getElem?_append_right (by omega), hlen]; simp [hp1]
    · rw [if_neg h2]
      by_cases h3 : i = k + 1
      · subst h3
        rw [if_pos rfl, List.getElem?_append_right (by simp; omega)]; simp [hlen, hp2]
      · rw [if_neg h3, List.getElem?_append_right (by simp; omega), List.getElem?_eq_none (by simp [hlen]; omega)]; rfl

theorem line_ok {l : List Cm} {k a b : Nat} (hlen : l.length = k + 2) (ha : a < k) (hb : b < k)
    (hpar : ∀ i, par l i = if i < k then (if i = 0 then [] else [((i : Int) - 1)]) else if i = k then [(a : Int)] else if i = k + 1 then [(b : Int)] else [])
    (hlay : ∀ c ∈ l, c.layer = 1 ∧ c.msg = ⟨#[]⟩) : okAll l := by
  intro i hi
  have hpi := hpar i
  rw [par_at hi] at hpi
  obtain ⟨e1, e2⟩ := hlay _ (List.getElem_mem hi)
  have hform : l[i].ps = [] ∨ ∃ p : Int, l[i].ps = [p] ∧ 0 ≤ p ∧ p < i := by
    rw [hpi]
    split
    · split
      · exact .inl rfl
      · exact .inr ⟨_, rfl, by omega, by omega⟩
    · split
      · exact .inr ⟨_, rfl, by omega, by omega⟩
      · split
        · exact .inr ⟨_, rfl, by omega, by omega⟩
        · exact .inl rfl
  refine ⟨?_, ?_, ?_, ⟨by rw [e2]; decide, fun j hj => by rw [e2] at hj; exact absurd hj (Nat.not_lt_zero _)⟩, by rw [e1]; omega⟩
  · rcases hform with h | ⟨p, h, _⟩ <;> rw [h] <;> simp
  · intro p hp
    rcases hform with h | ⟨q, h, hq⟩
    · rw [h] at hp; cases hp
    · rw [h] at hp; simp at hp; subst hp; exact hq
  · intro h2
    exfalso
    rcases hform with h | ⟨p, h, _⟩ <;> rw [h] at h2 <;> simp at h2

theorem markAll_one (S : Nat → Bool) (p : Nat) : markAll S [(p : Int)] = fun j => S j || decide (j = p) := by
  funext j; simp [markAll]; congr 1; simp [Int.ofNat_inj]

section
variable {cs : List Cm} {n a b : Nat} (h : Line cs n a b)

theorem Line.down (h : Line cs n a b) : ∀ (m : Nat) (S : Nat → Bool), m + 1 ≤ n → S m = true → comes cs (m + 1) S = fun j => S j || decide (j < m + 1)
  | 0, S, _, hS => by
    rw [comes, hS, if_pos rfl, h.first, markAll_nil, comes]
    funext j
    by_cases e : j = 0
    · subst e; simp [hS]
    · simp [e]
  | m + 1, S, hm, hS => by
    rw [comes, hS, if_pos rfl, h.next (m + 1) (by omega) (by omega), show (((m + 1 : Nat) : Int) - 1) = ((m : Nat) : Int) by omega, markAll_one]
    rw [Line.down h m _ (by omega) (by simp)]
    funext j
    by_cases e : j = m
    · subst e; simp [show j < j + 1 + 1 by omega]
    · by_cases e2 : j = m + 1
      · subst e2; simp [hS]
      · have : decide (j < m + 1) = decide (j < m + 1 + 1) := by
          by_cases h3 : j < m + 1
          · simp [h3, show j < m + 1 + 1 by omega]
          · simp [h3, show ¬ j < m + 1 + 1 by omega]
        simp [e, this]

theorem skip (cs : List Cm) (a : Nat) : ∀ (m : Nat) (S : Nat → Bool), a + 1 ≤ m → (∀ j, a < j → j < m → S j = false) → comes cs m S = comes cs (a + 1) S
  | 0, _, h, _ => by omega
  | m + 1, S, h, hS => by
    by_cases e : m = a
    · subst e; rfl
    · rw [comes, hS m (by omega) (by omega)]
      simp only [Bool.false_eq_true, if_false]
      exact skip cs a m S (by omega) fun j h1 h2 => hS j h1 (by omega)

theorem Line.anc_line (h : Line cs n a b) {i : Nat} (hi : i < n) : anc cs i = fun j => decide (j ≤ i) := by
  unfold anc
  rw [h.down i _ (by omega) (by simp)]
  funext j
  by_cases e : j ≤ i
  · simp [e]; omega
  · simp [e]; omega

theorem Line.anc_left (h : Line cs n a b) (ha : a < n) : anc cs n = fun j => decide (j = n) || decide (j ≤ a) := by
  unfold anc
  rw [comes]
  simp only [decide_true, if_true]
  rw [h.left, markAll_one, skip cs a n _ (by omega) (fun j h1 h2 => by simp; omega), h.down a _ (by omega) (by simp)]
  funext j
  by_cases e : j = n
  · simp [e]
  · by_cases e2 : j ≤ a
    · simp [e2]; omega
    · simp [e, e2]; omega

theorem Line.anc_right (h : Line cs n a b) (hb : b < n) : anc cs (n + 1) = fun j => decide (j = n + 1) || decide (j ≤ b) := by
  unfold anc
  rw [comes]
  simp only [decide_true, if_true]
  rw [h.right, markAll_one, comes]
  have : (decide (n = n + 1) || decide (n = b)) = false := by simp; omega
  simp only [this, Bool.false_eq_true, if_false]
  rw [skip cs b n _ (by omega) (fun j h1 h2 => by simp; omega), h.down b _ (by omega) (by simp)]
  funext j
  by_cases e : j = n + 1
  · simp [e]
  · by_cases e2 : j ≤ b
    · simp [e2]; omega
    · simp [e, e2]; omega

theorem pick_upto (i : Nat) (hi : i < 60) : pick (fun j => decide (j ≤ i)) 60 = (List.range (i + 1)).map fun (j : Nat) => (j : Int) := by
  unfold pick
  congr 1
  have : ∀ (k : Nat), i < k → (List.range k).filter (fun j => decide (j ≤ i)) = List.range (i + 1) := by
    intro k
    induction k with
    | zero => intro h; omega
    | succ k ih =>
      intro h
      rw [List.range_succ, List.filter_append]
      by_cases e : k = i
      · subst e
        have h1 : (List.range k).filter (fun j => decide (j ≤ k)) = List.range k := List.filter_eq_self.2 fun x hx => by have := List.mem_range.1 hx; simp; omega
        rw [h1, List.range_succ]; simp
      · rw [ih (by omega)]
        simp; omega
  exact this 60 hi

theorem base_low {low : Nat} (hl : low < 60) (x y : Nat) (hboth : both cs x y = fun j => decide (j ≤ low)) (hanc : ∀ i, i ≤ low → anc cs i = fun j => decide (j ≤ i)) : baseOf cs x y = [(low : Int)] := by
  unfold baseOf
  rw [hboth, pick_upto low hl]
  have hb : ∀ j : Nat, j ≤ low → belowOf cs ((List.range (low + 1)).map fun (j : Nat) => (j : Int)) j = decide (j < low) := by
    intro j hj
    rw [Bool.eq_iff_iff]
    simp only [belowOf, List.any_map, List.any_eq_true, List.mem_range, Function.comp, Bool.and_eq_true, bne_iff_ne, decide_eq_true_eq, Int.toNat_natCast]
    constructor
    · rintro ⟨i, hi, h1, h2⟩
      rw [hanc i (by omega)] at h1
      simp at h1
      omega
    · intro h
      exact ⟨low, by omega, by rw [hanc low (Nat.le_refl _)]; simp; omega, by omega⟩
  rw [List.filter_map, List.range_succ, List.filter_append]
  have h1 : (List.range low).filter ((fun i : Int => !belowOf cs (((List.range low ++ [low])).map fun (j : Nat) => (j : Int)) i.toNat) ∘ fun (j : Nat) => (j : Int)) = [] := by
    rw [List.filter_eq_nil_iff]
    intro j hj
    have hj' := List.mem_range.1 hj
    rw [← List.range_succ]
    simp only [Function.comp, Int.toNat_natCast]
    rw [hb j (by omega)]
    simp [hj']
  have h2 : [low].filter ((fun i : Int => !belowOf cs (((List.range low ++ [low])).map fun (j : Nat) => (j : Int)) i.toNat) ∘ fun (j : Nat) => (j : Int)) = [low] := by
    rw [List.filter_eq_self]
    intro j hj
    simp at hj
    subst hj
    rw [← List.range_succ]
    simp only [Function.comp, Int.toNat_natCast]
    rw [hb j (Nat.le_refl _)]
    simp
  rw [h1, h2]; rfl

theorem Line.bases (h : Line cs n a b) (ha : a < n) (hb : b < n) (hn : n ≤ 58) :
    (pick (anc cs a) 60).length = a + 1 ∧ baseOf cs a b = [((min a b : Nat) : Int)] ∧ baseOf cs n (n + 1) = [((min a b : Nat) : Int)] := by
  refine ⟨by rw [h.anc_line ha, pick_upto a (by omega)]; simp, ?_, ?_⟩
  · refine base_low (by omega) a b ?_ fun i hi => h.anc_line (by omega)
    funext j
    simp only [both, h.anc_line ha, h.anc_line hb]
    rw [Bool.eq_iff_iff]; simp; omega
  · refine base_low (by omega) n (n + 1) ?_ fun i hi => h.anc_line (by omega)
    funext j
    simp only [both, h.anc_left ha, h.anc_right hb]
    rw [Bool.eq_iff_iff]; simp; omega
end

end Go.Proofs.Ytommohepbpdmdaa
