/- The order of a query's parts, in plain mathematics. -/
import Derived.Test.YtmobdmljbbckiaaQueryPure
namespace Go.Proofs.Ytmobdmljbbckiaa
open Go.RowKit

def memS (K : List ByteArray) (v : ByteArray) : Bool := K.any fun x => decide (v = x)
theorem memS_iff (K : List ByteArray) (v : ByteArray) : memS K v = true ↔ v ∈ K := by
  unfold memS
  rw [List.any_eq_true]
  constructor
  · rintro ⟨x, hx, h⟩
    have : v = x := of_decide_eq_true h
    rw [this]; exact hx
  · exact fun h => ⟨v, h, decide_eq_true rfl⟩
theorem memS_not (K : List ByteArray) (v : ByteArray) (h : v ∉ K) : memS K v = false := by
  cases q : memS K v with
  | false => rfl
  | true => exact absurd ((memS_iff K v).1 q) h
/-- a slot that has a term, if some variables are known -/
def slotKnown (K : List ByteArray) (s : Slot) : Bool := decide (s.var.size = 0) || memS K s.var
def termsTo (f : Nat → Slot) (K : List ByteArray) : Nat → Nat
  | 0 => 0
  | j + 1 => termsTo f K j + (if slotKnown K (f j) = true then 1 else 0)
def termsN (p : Pat) (K : List ByteArray) : Nat := termsTo p.nth K 3
theorem termsTo_le (f : Nat → Slot) (K : List ByteArray) : ∀ j, termsTo f K j ≤ j
  | 0 => Nat.le_refl _
  | j + 1 => by have := termsTo_le f K j; unfold termsTo; split <;> omega
def ofN (set : List Tr) (p : Pat) : Nat := (set.filter fun t => fits t p).length
def cmpPlan (ps : List Pat) (set : List Tr) (K : List ByteArray) (i k : Int) : Int :=
  orI [cmpI (termsN (ps.getD k.toNat default) K) (termsN (ps.getD i.toNat default) K), cmpI (ofN set (ps.getD i.toNat default)) (ofN set (ps.getD k.toNat default))]
def minFrom (c : Int → Int → Int) (m : Int) (l : List Int) : Int := l.foldl (fun m y => if c y m < 0 then y else m) m
def minL (c : Int → Int → Int) : List Int → Int
  | [] => 0
  | x :: l => minFrom c x l
theorem minFrom_mem (c : Int → Int → Int) : ∀ (l : List Int) (m : Int), minFrom c m l = m ∨ minFrom c m l ∈ l
  | [], m => .inl rfl
  | y :: l, m => by
    have e : minFrom c m (y :: l) = minFrom c (if c y m < 0 then y else m) l := rfl
    rw [e]
    rcases minFrom_mem c l (if c y m < 0 then y else m) with h | h
    · rw [h]; split
      · exact .inr (List.mem_cons_self ..)
      · exact .inl rfl
    · exact .inr (List.mem_cons_of_mem _ h)
theorem minL_mem (c : Int → Int → Int) (l : List Int) (h : l ≠ []) : minL c l ∈ l := by
  cases l with
  | nil => exact absurd rfl h
  | cons x l =>
    rcases minFrom_mem c l x with e | e
    · show minFrom c x l ∈ _; rw [e]; exact List.mem_cons_self ..
    · exact List.mem_cons_of_mem _ e
theorem minFrom_snoc (c : Int → Int → Int) (m : Int) (l : List Int) (y : Int) : minFrom c m (l ++ [y]) = if c y (minFrom c m l) < 0 then y else minFrom c m l := by
  unfold minFrom
  rw [List.foldl_append]
  rfl

def addK (K : List ByteArray) (v : ByteArray) : List ByteArray := if memS K v = true then K else K ++ [v]
def knowTo (f : Nat → Slot) (K : List ByteArray) : Nat → List ByteArray
  | 0 => K
  | j + 1 => addK (knowTo f K j) (f j).var
def know (K : List ByteArray) (p : Pat) : List ByteArray := knowTo p.nth K 3
def orderGo (ps : List Pat) (set : List Tr) : Nat → List Int → List ByteArray → List Int → List Int
  | 0, _, _, out => out
  | n + 1, left, K, out => let i := minL (cmpPlan ps set K) left; orderGo ps set n (left.filter fun k => !decide (k = i)) (know K (ps.getD i.toNat default)) (out ++ [i])
def rangeI (n : Nat) : List Int := (List.range n).map fun i : Nat => (i : Int)
def planOrder (ps : List Pat) (set : List Tr) : List Int := orderGo ps set ps.length (rangeI ps.length) [] []
theorem filter_out {l : List Int} (hn : l.Nodup) {i : Int} (hi : i ∈ l) : (i :: l.filter fun k => !decide (k = i)).Perm l := by
  have h1 : (i :: l.filter fun k => !decide (k = i)).Nodup := by
    rw [List.nodup_cons]
    exact ⟨by simp, hn.filter _⟩
  refine (List.perm_ext_iff_of_nodup h1 hn).2 fun x => ?_
  simp only [List.mem_cons, List.mem_filter, Bool.not_eq_true', decide_eq_false_iff_not]
  constructor
  · rintro (rfl | h)
    · exact hi
    · exact h.1
  · intro h
    by_cases e : x = i
    · exact .inl e
    · exact .inr ⟨h, e⟩
theorem orderGo_perm (ps : List Pat) (set : List Tr) : ∀ (n : Nat) (left : List Int) (K : List ByteArray) (out : List Int), left.length = n → left.Nodup → (orderGo ps set n left K out).Perm (out ++ left)
  | 0, left, K, out, h, _ => by rw [List.length_eq_zero_iff.1 h]; simp [orderGo]
  | n + 1, left, K, out, h, hn => by
    have hne : left ≠ [] := fun e => by rw [e] at h; simp at h
    have hi := minL_mem (cmpPlan ps set K) left hne
    have hp := filter_out hn hi
    have hl := hp.length_eq
    simp only [List.length_cons] at hl
    unfold orderGo
    dsimp only
    refine (orderGo_perm ps set n _ _ _ (by omega) (hn.filter _)).trans ?_
    rw [List.append_assoc]
    exact List.Perm.append_left out hp
theorem rangeI_len (n : Nat) : (rangeI n).length = n := by simp [rangeI]
theorem rangeI_nodup (n : Nat) : (rangeI n).Nodup := by
  unfold rangeI List.Nodup
  rw [List.pairwise_map]
  exact List.nodup_range.imp fun {a b} h e => h (by omega)
theorem planOrder_perm (ps : List Pat) (set : List Tr) : (planOrder ps set).Perm (rangeI ps.length) := by
  have := orderGo_perm ps set ps.length (rangeI ps.length) [] [] (rangeI_len _) (rangeI_nodup _)
  simpa [planOrder] using this
end Go.Proofs.Ytmobdmljbbckiaa
