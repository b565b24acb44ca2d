/- Terms as keys of a map. -/
import Derived.Test.YtmobdmljbbckiaaMapLaws
import Derived.Test.YtmobdmljbbckiaaRow
import Derived.Test.YtmobdmljbbckiaaTermPure
import Derived.DeepKeys4
namespace Go.Proofs.Ytmobdmljbbckiaa
open Go.RowKit Go.Maps Go.WideMaps
set_option maxRecDepth 100000

theorem keysTm : Keyed Try.prog 28 := Keyed.of_law (deep_law_laid laidOut (m := 2) (by omega) (of_decide_eq_true (by kernel_rfl)) (by kernel_rfl) (by rw [Try.underlying28]))

/-- a term that may be a key -/
def TmKey (t : Tm) : Prop := (Lit.int .i64 t.kind).wf = true ∧ t.s.size ≤ maxLen ∧ t.lang.size ≤ maxLen

theorem lits_int (d : Nat) {n : Int} (h : (Lit.int .i64 n).wf = true) : Try.prog.keyLits (d + 1) 3 [.int .i64 n] = some [.int .i64 n] := by
  unfold Program.keyLits
  rw [Try.underlying3]
  simp [h]
theorem lits_string (d : Nat) {s : ByteArray} (h : s.size ≤ maxLen) : Try.prog.keyLits (d + 1) 9 [.string s] = some [.string s.data.toList] := by
  unfold Program.keyLits
  rw [Try.underlying9]
  simp [h]
theorem cellsTm : Try.prog.cellsOf 28 = 3 := by kernel_rfl
theorem cellsI : Try.prog.cellsOf 3 = 1 := by kernel_rfl
theorem cellsS : Try.prog.cellsOf 9 = 1 := by kernel_rfl
theorem lits_tm (d : Nat) {t : Tm} (h : TmKey t) : Try.prog.keyLits (d + 1 + 1) 28 (encTm t) = some [.int .i64 t.kind, .string t.s.data.toList, .string t.lang.data.toList] := by
  unfold Program.keyLits
  rw [Try.underlying28]
  have h0 := lits_int d h.1
  have h1 := lits_string d h.2.1
  have h2 := lits_string d h.2.2
  simp [cellsTm, cellsI, cellsS, encTm, h0, h1, h2]
theorem keyTm {t : Tm} (h : TmKey t) : ∃ l, keyOf Try.prog 28 (vTm t) = some l := by
  have hsz : Try.prog.types.size = 297 := by kernel_rfl
  obtain ⟨d, hd⟩ : ∃ d, Try.prog.types.size + 1 = d + 1 + 1 := ⟨297 - 1, by rw [hsz]⟩
  have hk : Try.prog.keyType 28 = true := by kernel_rfl
  have hf : (vTm t).formed Try.prog 28 = true := by
    unfold Value.formed
    rw [Try.underlying28]
    simp [cellsTm]
  have hl := lits_tm d h
  refine ⟨.string (keyBytes [.int .i64 t.kind, .string t.s.data.toList, .string t.lang.data.toList]), ?_⟩
  unfold keyOf
  rw [Try.underlying28]
  dsimp only
  rw [hk, hf, hd, show (vTm t).cells.toList = encTm t from rfl, hl]
  rfl
end Go.Proofs.Ytmobdmljbbckiaa
