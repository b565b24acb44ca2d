/- Plain mathematics of a graph of commits: what it comes of, what is common. No program in sight. -/
import Derived.Test.YtommohepbpdmdaaBase
namespace Go.Proofs.Ytommohepbpdmdaa
open Go.RowKit

/-- A commit as it reads: its parents' slice as a value, its parents, its layer, its message. -/
structure Cm where
  pv : Value
  ps : List Int
  layer : Int
  msg : ByteArray

def encCm (c : Cm) : List Value := [c.pv, .int .i64 c.layer, .string c.msg]

def CommitsAt (w : World) (v : Value) (cs : List Cm) : Prop := Reads encCm w v cs ∧ ∀ i (hi : i < cs.length), Reads encI w cs[i].pv cs[i].ps
theorem CommitsAt.ext {w w' : World} {v : Value} {cs : List Cm} (h : CommitsAt w v cs) (e : Ext w w') : CommitsAt w' v cs := ⟨h.1.ext e, fun i hi => (h.2 i hi).ext e⟩

/-- the bytes of a message are such as may be -/
def okMsg (s : ByteArray) : Prop := s.size ≤ 24 ∧ ∀ i (h : i < s.size), 32 ≤ s[i].toNat ∧ s[i].toNat ≤ 126
/-- a commit of number i is right -/
structure okCm (c : Cm) (i : Nat) : Prop where
  two : c.ps.length ≤ 2
  ahead : ∀ p ∈ c.ps, 0 ≤ p ∧ p < i
  unlike : ∀ (h : c.ps.length = 2), c.ps[0] ≠ c.ps[1]
  msg : okMsg c.msg
  layer : 1 ≤ c.layer ∧ c.layer ≤ 300
def okAll (cs : List Cm) : Prop := ∀ i (h : i < cs.length), okCm cs[i] i
theorem okAll.ahead {cs : List Cm} (h : okAll cs) : ∀ k (h : k < cs.length), ∀ p ∈ cs[k].ps, 0 ≤ p ∧ p < k := fun k hk => (h k hk).ahead

/-- the parents of commit k, by number -/
def par (cs : List Cm) (k : Nat) : List Int := (cs[k]?.map Cm.ps).getD []
theorem par_at {cs : List Cm} {k : Nat} (h : k < cs.length) : par cs k = cs[k].ps := by simp [par, h]

/-- parents lie ahead -/
def Ahead (cs : List Cm) : Prop := ∀ k (h : k < cs.length), ∀ p ∈ cs[k].ps, 0 ≤ p ∧ p < k
theorem Ahead.at {cs : List Cm} (h : Ahead cs) {k : Nat} (hk : k < cs.length) {j : Nat} (hj : j < cs[k].ps.length) : 0 ≤ cs[k].ps[j] ∧ cs[k].ps[j] < k :=
  h k hk _ (List.getElem_mem hj)

def markAll (S : Nat → Bool) (l : List Int) : Nat → Bool := fun j => S j || l.contains (j : Int)
theorem markAll_nil (S : Nat → Bool) : markAll S [] = S := by funext j; simp [markAll]
theorem markAll_snoc (S : Nat → Bool) (l : List Int) (p : Nat) (x : Int) (hx : x = p) : markAll S (l ++ [x]) = fun j => if j = p then true else markAll S l j := by
  subst hx; funext j; simp [markAll]
  by_cases h : j = p
  · subst h; simp
  · have : ¬ ((j : Int) = (p : Int)) := by omega
    simp [h, this]

/-- the marks below k gone through, from above -/
def comes (cs : List Cm) : Nat → (Nat → Bool) → (Nat → Bool)
  | 0, S => S
  | k + 1, S => comes cs k (if S k then markAll S (par cs k) else S)
/-- what a commit comes of, and itself -/
def anc (cs : List Cm) (i : Nat) : Nat → Bool := comes cs (i + 1) (fun j => decide (j = i))

/-- of a set its numbers, rising -/
def pick (S : Nat → Bool) (k : Nat) : List Int := ((List.range k).filter S).map (fun (j : Nat) => (j : Int))
theorem pick_le (S : Nat → Bool) (k : Nat) : (pick S k).length ≤ k := by
  unfold pick; simp; exact Nat.le_trans (List.length_filter_le _ _) (by simp)
theorem pick_hit (S : Nat → Bool) (k : Nat) (h : S k = true) : pick S (k + 1) = pick S k ++ [(k : Int)] := by
  simp [pick, List.range_succ, List.filter_append, h]
theorem pick_miss (S : Nat → Bool) (k : Nat) (h : S k = false) : pick S (k + 1) = pick S k := by
  simp [pick, List.range_succ, List.filter_append, h]
theorem pick_mem {S : Nat → Bool} {k : Nat} {x : Int} : x ∈ pick S k ↔ ∃ j : Nat, j < k ∧ S j = true ∧ x = j := by
  unfold pick; constructor
  · intro h; obtain ⟨j, hj, rfl⟩ := List.mem_map.1 h; have := List.mem_filter.1 hj; exact ⟨j, List.mem_range.1 this.1, this.2, rfl⟩
  · rintro ⟨j, h1, h2, rfl⟩; exact List.mem_map.2 ⟨j, List.mem_filter.2 ⟨List.mem_range.2 h1, h2⟩, rfl⟩

/-- the numbers of both -/
def both (cs : List Cm) (a b : Nat) : Nat → Bool := fun j => anc cs a j && anc cs b j
/-- below one of these, another one than itself -/
def belowOf (cs : List Cm) (l : List Int) (k : Nat) : Bool := l.any fun i => anc cs i.toNat k && (k : Int) != i
theorem belowOf_snoc (cs : List Cm) (l : List Int) (i : Int) (k : Nat) : belowOf cs (l ++ [i]) k = (belowOf cs l k || (anc cs i.toNat k && (k : Int) != i)) := by simp [belowOf]
def baseOf (cs : List Cm) (a b : Nat) : List Int := (pick (both cs a b) 60).filter fun i => !(belowOf cs (pick (both cs a b) 60) i.toNat)

end Go.Proofs.Ytommohepbpdmdaa
