/- Patterns in plain mathematics. No program in sight. -/
import Derived.Test.YtmobdmljbbckiaaTermPure
namespace Go.Proofs.Ytmobdmljbbckiaa
open Go.RowKit

structure Slot where
  var : ByteArray
  term : Tm
  deriving DecidableEq
structure Pat where
  s : Slot
  p : Slot
  o : Slot
  deriving DecidableEq
instance : Inhabited Slot := ⟨⟨noText, default⟩⟩
instance : Inhabited Pat := ⟨⟨default, default, default⟩⟩

def encSlot (s : Slot) : List Value := [.string s.var, .int .i64 s.term.kind, .string s.term.s, .string s.term.lang]
def encPat (p : Pat) : List Value := encSlot p.s ++ encSlot p.p ++ encSlot p.o
abbrev vSlot (s : Slot) : Value := .agg #[.string s.var, .int .i64 s.term.kind, .string s.term.s, .string s.term.lang]
abbrev vPat (p : Pat) : Value := .agg #[.string p.s.var, .int .i64 p.s.term.kind, .string p.s.term.s, .string p.s.term.lang, .string p.p.var, .int .i64 p.p.term.kind, .string p.p.term.s, .string p.p.term.lang, .string p.o.var, .int .i64 p.o.term.kind, .string p.o.term.s, .string p.o.term.lang]

/-- a text is a variable -/
def isWord (s : ByteArray) : Bool := decide (s.size ≤ 10) && (bytesOf s).all isLetter
def slotErr (s : Slot) : Option Int := if s.var.size = 0 then tmErr s.term else if isWord s.var = true then (if tmEq s.term noTm = true then none else some 3) else some 2
def addVar (out : List ByteArray) (s : Slot) : List ByteArray := if s.var.size = 0 then out else if (out.any fun x => decide (s.var = x)) = true then out else out ++ [s.var]

/-- the slots, the terms by their number -/
def Pat.nth (p : Pat) : Nat → Slot
  | 0 => p.s
  | 1 => p.p
  | _ => p.o
def Tr.nth (t : Tr) : Nat → Tm
  | 0 => t.s
  | 1 => t.p
  | _ => t.o
/-- what keeps a triple from fitting: a term that is another one; a variable's terms that differ -/
def slotMiss (t : Tr) (p : Pat) (i : Nat) : Bool := decide ((p.nth i).var.size = 0) && !tmEq (p.nth i).term (t.nth i)
def pairMiss (t : Tr) (p : Pat) (i k : Nat) : Bool := decide ((p.nth i).var.size ≠ 0) && decide ((p.nth k).var = (p.nth i).var) && !tmEq (t.nth k) (t.nth i)
def roundMiss (t : Tr) (p : Pat) : Nat → Bool
  | 0 => slotMiss t p 0
  | 1 => slotMiss t p 1 || pairMiss t p 1 0
  | _ => slotMiss t p 2 || (pairMiss t p 2 0 || pairMiss t p 2 1)
def fits (t : Tr) (p : Pat) : Bool := !(roundMiss t p 0 || roundMiss t p 1 || roundMiss t p 2)
theorem fits_not {t : Tr} {p : Pat} {j : Nat} (hj : j < 3) (h : roundMiss t p j = true) : fits t p = false := by
  have : j = 0 ∨ j = 1 ∨ j = 2 := by omega
  unfold fits
  rcases this with rfl | rfl | rfl <;> rw [h] <;> simp
theorem fits_yes {t : Tr} {p : Pat} (h : ∀ i, i < 3 → roundMiss t p i = false) : fits t p = true := by
  unfold fits; rw [h 0 (by omega), h 1 (by omega), h 2 (by omega)]; rfl
def varsTo (f : Nat → Slot) : Nat → List ByteArray
  | 0 => []
  | j + 1 => addVar (varsTo f j) (f j)
/-- what is wrong with a pattern; its variables -/
def patErr (p : Pat) : Option Int := firstErr (fun i => slotErr (p.nth i)) 3
def patVars (p : Pat) : List ByteArray := varsTo p.nth 3
theorem addVar_le (out : List ByteArray) (s : Slot) : (addVar out s).length ≤ out.length + 1 := by
  unfold addVar; split
  · omega
  · split
    · omega
    · simp
theorem varsTo_le (f : Nat → Slot) : ∀ j, (varsTo f j).length ≤ j
  | 0 => Nat.le_refl _
  | j + 1 => Nat.le_trans (addVar_le _ _) (by have := varsTo_le f j; omega)
end Go.Proofs.Ytmobdmljbbckiaa
