/- Terms and triples as they read, and what is said of them in plain mathematics: what is wrong with one, how two compare. No program in sight. -/
import Derived.Test.YtmobdmljbbckiaaBase
import Derived.Lib.Bytealg
namespace Go.Proofs.Ytmobdmljbbckiaa
open Go.RowKit

structure Tm where
  kind : Int
  s : ByteArray
  lang : ByteArray
  deriving DecidableEq

structure Tr where
  s : Tm
  p : Tm
  o : Tm
  deriving DecidableEq

abbrev noText : ByteArray := ⟨#[]⟩
def noTm : Tm := ⟨0, noText, noText⟩

def encTm (t : Tm) : List Value := [.int .i64 t.kind, .string t.s, .string t.lang]
def encTr (t : Tr) : List Value := [.int .i64 t.s.kind, .string t.s.s, .string t.s.lang, .int .i64 t.p.kind, .string t.p.s, .string t.p.lang, .int .i64 t.o.kind, .string t.o.s, .string t.o.lang]
abbrev vTm (t : Tm) : Value := .agg #[.int .i64 t.kind, .string t.s, .string t.lang]
abbrev vTr (t : Tr) : Value := .agg #[.int .i64 t.s.kind, .string t.s.s, .string t.s.lang, .int .i64 t.p.kind, .string t.p.s, .string t.p.lang, .int .i64 t.o.kind, .string t.o.s, .string t.o.lang]

/-- of a byte -/
def isLetter (c : UInt8) : Bool := decide (97 ≤ c.toNat) && decide (c.toNat ≤ 122)
def isDigit (c : UInt8) : Bool := decide (48 ≤ c.toNat) && decide (c.toNat ≤ 57)
def isName (c : UInt8) : Bool := isLetter c || isDigit c || decide (c.toNat = 58) || decide (c.toNat = 47) || decide (c.toNat = 46)
def isAnon (c : UInt8) : Bool := isLetter c || isDigit c
def isText (c : UInt8) : Bool := decide (32 ≤ c.toNat) && decide (c.toNat ≤ 126)
def okBytes (kind : Int) (c : UInt8) : Bool := if kind = 1 then isName c else if kind = 2 then isAnon c else isText c

abbrev bytesOf (s : ByteArray) : List UInt8 := s.data.toList

/-- its syntax is wrong -/
def synBad (t : Tm) : Bool := !(bytesOf t.s).all (okBytes t.kind) || (decide (t.kind ≠ 3) && (bytesOf t.s).isEmpty) || (decide (t.kind = 1) && !(match bytesOf t.s with | c :: _ => isLetter c | [] => true))
def langBad (t : Tm) : Bool := !(bytesOf t.lang).isEmpty && (decide (t.kind ≠ 3) || decide (t.lang.size ≠ 2) || !(bytesOf t.lang).all isLetter)
/-- what is wrong with a term: the error's number -/
def tmErr (t : Tm) : Option Int :=
  if t.kind < 1 ∨ 3 < t.kind then some 1 else if 24 < t.s.size then some 4 else if synBad t = true then some 2 else if langBad t = true then some 2 else none

/-- two terms are the same -/
def tmEq (a b : Tm) : Bool := decide (a = b)
theorem tmEq_iff (a b : Tm) : tmEq a b = true ↔ a = b := by simp [tmEq]
theorem tmEq_not (a b : Tm) : tmEq a b = false ↔ a ≠ b := by simp [tmEq]

def trShape (t : Tr) : Bool := decide (t.s.kind ≠ 3) && decide (t.p.kind = 1)
def trErr (t : Tr) : Option Int := ((tmErr t.s).or ((tmErr t.p).or (tmErr t.o))).or (if trShape t = true then none else some 3)

def cmpI (a b : Int) : Int := if a < b then -1 else if b < a then 1 else 0
def cmpS (a b : ByteArray) : Int := Lib.compareBytes (bytesOf a) (bytesOf b)
def orI : List Int → Int
  | [] => 0
  | x :: l => if x ≠ 0 then x else orI l
def cmpTm (a b : Tm) : Int := orI [cmpI a.kind b.kind, cmpS a.s b.s, cmpS a.lang b.lang]
def cmpTr (a b : Tr) : Int := orI [cmpTm a.s b.s, cmpTm a.p b.p, cmpTm a.o b.o]

theorem orI_hit {l : List Int} {k : Nat} (hk : k < l.length) (h : l[k] ≠ 0) (hb : ∀ j (hj : j < k), l[j]'(by omega) = 0) : orI l = l[k] := by
  induction l generalizing k with
  | nil => simp at hk
  | cons x l ih =>
    cases k with
    | zero => simp at h; simp [orI, h]
    | succ k =>
      have h0 : x = 0 := hb 0 (by omega)
      simp only [orI, h0, ne_eq, not_true, if_false]
      rw [ih (k := k) (by simpa using hk) (by simpa using h) (fun j hj => hb (j + 1) (by omega))]
      simp
theorem orI_miss {l : List Int} (hb : ∀ j (hj : j < l.length), l[j] = 0) : orI l = 0 := by
  induction l with
  | nil => rfl
  | cons x l ih =>
    have h0 : x = 0 := hb 0 (by simp)
    simp only [orI, h0, ne_eq, not_true, if_false]
    exact ih fun j hj => hb (j + 1) (by simpa using hj)

/-- cmp is -1, 0 or 1 -/
def Tri (x : Int) : Prop := x = -1 ∨ x = 0 ∨ x = 1
theorem tri_cmpI (a b : Int) : Tri (cmpI a b) := by unfold cmpI Tri; split; · exact .inl rfl
                                                    · split; · exact .inr (.inr rfl)
                                                      · exact .inr (.inl rfl)
theorem tri_bytes : ∀ (a b : List UInt8), Tri (Lib.compareBytes a b)
  | [], [] => .inr (.inl rfl)
  | [], _ :: _ => .inl rfl
  | _ :: _, [] => .inr (.inr rfl)
  | a :: la, b :: lb => by
    unfold Lib.compareBytes
    split
    · exact .inl rfl
    · split
      · exact .inr (.inr rfl)
      · exact tri_bytes la lb
theorem tri_cmpS (a b : ByteArray) : Tri (cmpS a b) := tri_bytes _ _
theorem tri_or : ∀ (l : List Int), (∀ x ∈ l, Tri x) → Tri (orI l)
  | [], _ => .inr (.inl rfl)
  | x :: l, h => by
    unfold orI
    split
    · exact h x (List.mem_cons_self ..)
    · exact tri_or l fun y hy => h y (List.mem_cons_of_mem _ hy)
theorem tri_cmpTm (a b : Tm) : Tri (cmpTm a b) := tri_or _ (by
  intro x hx; simp at hx; rcases hx with rfl | rfl | rfl
  · exact tri_cmpI _ _
  · exact tri_cmpS _ _
  · exact tri_cmpS _ _)
theorem tri_cmpTr (a b : Tr) : Tri (cmpTr a b) := tri_or _ (by
  intro x hx; simp at hx; rcases hx with rfl | rfl | rfl <;> exact tri_cmpTm _ _)

theorem isEmpty_toList (s : ByteArray) : s.toList.isEmpty = decide (s.size = 0) := by
  rw [ByteArray.toList_eq, show s.size = s.data.toList.length from (Array.length_toList).symm]
  cases s.data.toList <;> simp
theorem isEmpty_bytes (s : ByteArray) : (bytesOf s).isEmpty = decide (s.size = 0) := by rw [← isEmpty_toList, ByteArray.toList_eq]
theorem bytesOf_cons {s : ByteArray} (h : 0 < s.size) : ∃ r, bytesOf s = s[0] :: r := by
  cases hb : bytesOf s with
  | nil =>
    have h1 := isEmpty_bytes s
    rw [hb] at h1
    have h2 := of_decide_eq_true h1.symm
    omega
  | cons c r =>
    refine ⟨r, ?_⟩
    have h0 : (bytesOf s)[0]? = some s[0] := by simp [ByteArray.getElem_eq_getElem_data, h]
    rw [hb] at h0
    simp at h0
    rw [h0]

instance : Inhabited Tm := ⟨⟨0, ⟨#[]⟩, ⟨#[]⟩⟩⟩
instance : Inhabited Tr := ⟨⟨default, default, default⟩⟩

/-- the first of so many errors -/
def firstErr (f : Nat → Option Int) : Nat → Option Int
  | 0 => none
  | n + 1 => (firstErr f n).or (f n)
theorem firstErr_miss {f : Nat → Option Int} : ∀ {n : Nat}, (∀ i, i < n → f i = none) → firstErr f n = none
  | 0, _ => rfl
  | n + 1, h => by rw [firstErr, firstErr_miss (fun i hi => h i (by omega)), h n (by omega)]; rfl
theorem firstErr_hit {f : Nat → Option Int} {k : Nat} {e : Int} (h : f k = some e) (hb : ∀ i, i < k → f i = none) : ∀ {n : Nat}, k < n → firstErr f n = some e
  | 0, hk => absurd hk (Nat.not_lt_zero _)
  | n + 1, hk => by
    by_cases e : k = n
    · subst e; rw [firstErr, firstErr_miss hb, h]; rfl
    · rw [firstErr, firstErr_hit h hb (show k < n by omega)]; rfl

/-- what is wrong with a set at a place -/
def setErrAt (l : List Tr) (i : Nat) : Option Int := (trErr (l.getD i default)).or (if 0 < i ∧ 0 ≤ cmpTr (l.getD (i - 1) default) (l.getD i default) then some 6 else none)
/-- what is wrong with a set -/
def setErr (l : List Tr) : Option Int := if 200 < l.length then some 4 else firstErr (setErrAt l) l.length

theorem getD_at {α : Type} {l : List α} {i : Nat} (h : i < l.length) (d : α) : l.getD i d = l[i] := by simp [List.getD, h]

/-- the cells of a triple in a row of them -/
theorem Tr.cells {w : World} {b off : Nat} {l : List Tr} (hc : ∀ t u, (l.flatMap encTr)[t]? = some u → w.cell? ⟨b, off + t, none⟩ = some u) {k : Nat} (hk : k < l.length) :
    w.cell? ⟨b, off + k * 9, none⟩ = some (.int .i64 l[k].s.kind) ∧ w.cell? ⟨b, off + k * 9 + 1, none⟩ = some (.string l[k].s.s) ∧ w.cell? ⟨b, off + k * 9 + 2, none⟩ = some (.string l[k].s.lang) ∧
    w.cell? ⟨b, off + k * 9 + 3, none⟩ = some (.int .i64 l[k].p.kind) ∧ w.cell? ⟨b, off + k * 9 + 4, none⟩ = some (.string l[k].p.s) ∧ w.cell? ⟨b, off + k * 9 + 5, none⟩ = some (.string l[k].p.lang) ∧
    w.cell? ⟨b, off + k * 9 + 6, none⟩ = some (.int .i64 l[k].o.kind) ∧ w.cell? ⟨b, off + k * 9 + 7, none⟩ = some (.string l[k].o.s) ∧ w.cell? ⟨b, off + k * 9 + 8, none⟩ = some (.string l[k].o.lang) := by
  have h9 : ∀ x : Tr, (encTr x).length = 9 := fun _ => rfl
  have h := fun c (hc9 : c < 9) (u : Value) (hu : (encTr l[k])[c]? = some u) => hc _ u ((flat_get h9 l k c hk hc9).trans hu)
  simp only [← Nat.add_assoc] at h
  exact ⟨h 0 (by omega) _ rfl, h 1 (by omega) _ rfl, h 2 (by omega) _ rfl, h 3 (by omega) _ rfl, h 4 (by omega) _ rfl, h 5 (by omega) _ rfl, h 6 (by omega) _ rfl, h 7 (by omega) _ rfl, h 8 (by omega) _ rfl⟩

end Go.Proofs.Ytmobdmljbbckiaa
