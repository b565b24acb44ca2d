/- An order and the order that turns it back, in plain mathematics; how many variables a query has. -/
import Derived.Test.YtmobdmljbbckiaaPlanSwap
import Derived.Test.YtmobdmljbbckiaaPlanOrder
namespace Go.Proofs.Ytmobdmljbbckiaa
open Go.RowKit

theorem order_ints {l : List Int} {n : Nat} (h : l.Perm (rangeI n)) : ∃ ns, l = ints ns ∧ ns.Perm (List.range n) := by
  refine ⟨l.map Int.toNat, ?_, ?_⟩
  · unfold ints
    rw [List.map_map]
    symm
    refine (List.map_congr_left fun x hx => ?_).trans (List.map_id l)
    obtain ⟨i, _, rfl⟩ := List.mem_map.1 (h.mem_iff.1 hx)
    simp
  · refine (h.map Int.toNat).trans (.of_eq ?_)
    unfold rangeI
    rw [List.map_map]
    exact (List.map_congr_left fun x _ => by simp).trans (List.map_id _)
theorem ints_len (o : List Nat) : (ints o).length = o.length := by simp [ints]

def backTo (ns : List Nat) : Nat → List Nat
  | 0 => List.replicate ns.length 0
  | j + 1 => (backTo ns j).set (ns.getD j 0) j
theorem backTo_len (ns : List Nat) : ∀ j, (backTo ns j).length = ns.length
  | 0 => by simp [backTo]
  | j + 1 => by rw [backTo, List.length_set, backTo_len ns j]
theorem backTo_at {ns : List Nat} (hd : ns.Nodup) (hb : ∀ i ∈ ns, i < ns.length) : ∀ j, j ≤ ns.length → ∀ i (hi : i < ns.length), i < j → (backTo ns j)[ns[i]]? = some i
  | 0, _, i, _, h => absurd h (Nat.not_lt_zero _)
  | j + 1, hj, i, hi, h => by
    have hjl : j < ns.length := by omega
    have hg : ns.getD j 0 = ns[j] := by simp [List.getD, hjl]
    rw [backTo, hg]
    by_cases e : i = j
    · subst e
      rw [List.getElem?_set_self (by rw [backTo_len]; exact hb _ (List.getElem_mem hi))]
    · have hne : ns[j] ≠ ns[i] := fun q => e ((List.getElem_inj hd).1 q).symm
      rw [List.getElem?_set_ne hne]
      exact backTo_at hd hb j (by omega) i hi (by omega)
theorem backTo_all {ns : List Nat} (h : ns.Perm (List.range ns.length)) : (backTo ns ns.length).Nodup ∧ (∀ i ∈ backTo ns ns.length, i < ns.length) ∧ ∀ ps : List Pat, ps.length = ns.length → takeParts (takeParts ps ns) (backTo ns ns.length) = ps := by
  have hd : ns.Nodup := h.nodup_iff.2 List.nodup_range
  have hb : ∀ i ∈ ns, i < ns.length := fun i hi => List.mem_range.1 (h.mem_iff.1 hi)
  have hl := backTo_len ns ns.length
  have hat := backTo_at hd hb ns.length (Nat.le_refl _)
  have hk : ∀ k (hk : k < (backTo ns ns.length).length), ∃ i, ∃ hi : i < ns.length, ns[i] = k ∧ (backTo ns ns.length)[k] = i := fun k hk => by
    have : k ∈ ns := h.mem_iff.2 (List.mem_range.2 (by omega))
    obtain ⟨i, hi, e⟩ := List.mem_iff_getElem.1 this
    refine ⟨i, hi, e, ?_⟩
    have := hat i hi hi
    rw [e, List.getElem?_eq_getElem hk] at this
    exact Option.some.inj this
  refine ⟨?_, ?_, ?_⟩
  · rw [List.nodup_iff_pairwise_ne, List.pairwise_iff_getElem]
    intro a b ha hb2 hab e
    obtain ⟨i, hi, e1, e2⟩ := hk a ha
    obtain ⟨i', hi', e3, e4⟩ := hk b hb2
    have : i = i' := by rw [← e2, ← e4]; exact e
    subst this
    omega
  · intro x hx
    obtain ⟨k, hk1, rfl⟩ := List.mem_iff_getElem.1 hx
    obtain ⟨i, hi, _, e⟩ := hk k hk1
    omega
  · intro ps hps
    apply List.ext_getElem
    · rw [takeParts_len, hl, hps]
    · intro k h1 h2
      rw [takeParts_len] at h1
      obtain ⟨i, hi, e1, e2⟩ := hk k h1
      have hkn : k < ns.length := by omega
      simp only [takeParts, List.getElem_map, e2]
      have : (List.map (fun i => ps.getD i default) ns).getD i default = ps.getD ns[i] default := by simp [List.getD, hi]
      rw [this, e1]
      simp [List.getD, h2]

theorem nodup_le {α : Type} [DecidableEq α] : ∀ (l m : List α), l.Nodup → (∀ x ∈ l, x ∈ m) → l.length ≤ m.length
  | [], _, _, _ => Nat.zero_le _
  | x :: r, m, hd, hs => by
    rw [List.nodup_cons] at hd
    have hx := hs x (by simp)
    have := nodup_le r (m.erase x) hd.2 (fun y hy => (List.mem_erase_of_ne (fun e => hd.1 (by rw [← e]; exact hy))).2 (hs y (by simp [hy])))
    rw [List.length_erase_of_mem hx] at this
    have := List.length_pos_of_mem hx
    rw [List.length_cons]; omega
theorem askErr_vars {q : Qu} (h : askErr q = none) : q.vars.length ≤ 8 := by
  obtain ⟨h6, h0, hp⟩ := askErr_none h
  unfold askErr at h
  rw [if_neg (by omega), if_neg h0, hp, Option.none_or] at h
  by_cases h8 : 8 < (varsAll q.parts).length
  · rw [if_pos h8] at h; cases h
  rw [if_neg h8] at h
  by_cases h9 : q.vars.length = 0 ∨ (q.vars.any fun s => !((varsAll q.parts).any fun x => decide (s = x))) = true
  · rw [if_pos h9] at h; cases h
  rw [if_neg h9] at h
  cases hf : firstErr (fun i => if ((q.vars.take i).any fun x => decide (q.vars.getD i noText = x)) = true then some (7 : Int) else none) q.vars.length with
  | some n => rw [hf] at h; cases h
  | none =>
    have hall : ∀ i, i < q.vars.length → ¬ ((q.vars.take i).any fun x => decide (q.vars.getD i noText = x)) = true := fun i hi e => by
      have := firstErr_none hf i hi
      rw [if_pos e] at this
      cases this
    refine Nat.le_trans (nodup_le q.vars (varsAll q.parts) ?_ ?_) (Nat.le_of_not_lt h8)
    · rw [List.nodup_iff_pairwise_ne, List.pairwise_iff_getElem]
      intro i j hi hj hij e
      refine hall j hj (List.any_eq_true.2 ⟨q.vars[i], ?_, ?_⟩)
      · exact List.mem_iff_getElem.2 ⟨i, by rw [List.length_take]; omega, by rw [List.getElem_take]⟩
      · simp [List.getD, hj, e]
    · intro x hx
      have h10 : ¬ (q.vars.any fun s => !((varsAll q.parts).any fun x => decide (s = x))) = true := fun e => h9 (.inr e)
      rw [Bool.not_eq_true, List.any_eq_false] at h10
      have := h10 x hx
      simp only [Bool.not_eq_true, Bool.not_eq_false', List.any_eq_true, decide_eq_true_eq] at this
      obtain ⟨y, hy, rfl⟩ := this
      exact hy
end Go.Proofs.Ytmobdmljbbckiaa
