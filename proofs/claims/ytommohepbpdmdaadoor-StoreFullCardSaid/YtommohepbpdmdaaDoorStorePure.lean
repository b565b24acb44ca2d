/- StoreFull's plain law: which objects come, how many of them there is room for. -/
import Derived.Test.YtommohepbpdmdaaDoorTexts
namespace Go.Proofs.YtommohepbpdmdaaDoor
open Go.RowKit

def xrun (m : Nat) : ByteArray := ⟨Array.replicate m 120⟩
theorem xrun_size (m : Nat) : (xrun m).size = m := by simp [xrun, ByteArray.size]
theorem xrun_add (a b : Nat) : xrun a ++ xrun b = xrun (a + b) := by
  apply ByteArray.ext
  rw [ByteArray.data_append]
  simp [xrun, Array.replicate_append_replicate]
theorem xs_at : ∀ k, k < 51 → (⟨#[120, 120, 120, 120, 120, 120, 120, 120, 120, 120, 120, 120, 120, 120, 120, 120, 120, 120, 120, 120, 120, 120, 120, 120, 120, 120, 120, 120, 120, 120, 120, 120, 120, 120, 120, 120, 120, 120, 120, 120, 120, 120, 120, 120, 120, 120, 120, 120, 120, 120]⟩ : ByteArray).extract 0 k = xrun k := by decide +kernel
/-- an object of so many bytes -/
def objOf (size i : Nat) : ByteArray := textOf i ++ xrun (size - 2)
theorem textOf_size (i : Nat) : (textOf i).size = 2 := rfl
theorem objOf_size {size : Nat} (h : 2 ≤ size) (i : Nat) : (objOf size i).size = size := by
  rw [objOf, ByteArray.size_append, textOf_size, xrun_size]; omega
theorem objOf_inj {size i j : Nat} (hi : i < 676) (hj : j < 676) (h : objOf size i = objOf size j) : i = j := by
  have h1 := congrArg (fun s : ByteArray => s.data.toList) h
  simp only [objOf, ByteArray.data_append, Array.toList_append, textOf] at h1
  have h2 := congrArg (fun l : List UInt8 => l.take 2) h1
  simp at h2
  obtain ⟨a, b⟩ := h2
  have ha := congrArg UInt8.toNat a
  have hb := congrArg UInt8.toNat b
  simp at ha hb
  omega

/-- the two maps when so many have come -/
def idsOf (size k : Nat) : List (Value × Value) := (List.range k).map fun j => (.string (objOf size j), .int .i64 ((j + 1 : Nat) : Int))
def allOf (size k : Nat) : List (Value × Value) := (List.range k).map fun j => (.int .i64 ((j + 1 : Nat) : Int), .string (objOf size j))
theorem idsOf_succ (size k : Nat) : idsOf size (k + 1) = idsOf size k ++ [(.string (objOf size k), .int .i64 ((k + 1 : Nat) : Int))] := by simp [idsOf, List.range_succ]
theorem allOf_succ (size k : Nat) : allOf size (k + 1) = allOf size k ++ [(.int .i64 ((k + 1 : Nat) : Int), .string (objOf size k))] := by simp [allOf, List.range_succ]
theorem allOf_len (size k : Nat) : (allOf size k).length = k := by simp [allOf]
theorem idsOf_in {size j k : Nat} (h : j < k) : (Value.string (objOf size j), Value.int .i64 ((j + 1 : Nat) : Int)) ∈ idsOf size k := List.mem_map.2 ⟨j, List.mem_range.2 h, rfl⟩
theorem idsOf_out {size i k : Nat} (h : k ≤ i) (hi : i < 676) : ∀ x ∈ idsOf size k, x.1 ≠ .string (objOf size i) := by
  intro x hx he
  obtain ⟨j, hj, rfl⟩ := List.mem_map.1 hx
  have hj := List.mem_range.1 hj
  have := objOf_inj (by omega) hi (Value.string.inj he)
  omega
theorem allOf_out (size k : Nat) : ∀ x ∈ allOf size k, x.1 ≠ .int .i64 ((k + 1 : Nat) : Int) := by
  intro x hx he
  obtain ⟨j, hj, rfl⟩ := List.mem_map.1 hx
  have hj := List.mem_range.1 hj
  have := (Value.int.inj he).2
  omega

/-- there is room for so many -/
def roomFor (size : Nat) : Nat := min 300 (60000 / size)
theorem roomFor_le (size : Nat) : roomFor size ≤ 300 := Nat.min_le_left _ _
theorem fits_iff {size : Nat} (h : 2 ≤ size) (i : Nat) : i < roomFor size ↔ i < 300 ∧ (i + 1) * size ≤ 60000 := by
  unfold roomFor
  rw [Nat.lt_min, Nat.lt_iff_add_one_le (m := i) (n := 60000 / size), Nat.le_div_iff_mul_le (by omega)]
end Go.Proofs.YtommohepbpdmdaaDoor
