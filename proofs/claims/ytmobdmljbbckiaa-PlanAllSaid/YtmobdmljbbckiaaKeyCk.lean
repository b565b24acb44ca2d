/- Pairs of a subject and a predicate; as keys of a map. -/
import Derived.Test.YtmobdmljbbckiaaKeyTm
import Derived.Test.YtmobdmljbbckiaaCmpPure
namespace Go.Proofs.Ytmobdmljbbckiaa
open Go.RowKit Go.Maps Go.WideMaps
set_option maxRecDepth 100000

structure Ck where
  s : Tm
  p : Tm
  deriving DecidableEq
def encCk (k : Ck) : List Value := [.int .i64 k.s.kind, .string k.s.s, .string k.s.lang, .int .i64 k.p.kind, .string k.p.s, .string k.p.lang]
abbrev vCk (k : Ck) : Value := .agg #[.int .i64 k.s.kind, .string k.s.s, .string k.s.lang, .int .i64 k.p.kind, .string k.p.s, .string k.p.lang]
theorem encCk_len : ∀ k : Ck, (encCk k).length = 6 := fun _ => rfl
def ckOf (t : Tr) : Ck := ⟨t.s, t.p⟩
instance : Inhabited Ck := ⟨⟨default, default⟩⟩
theorem vCk_inj {a b : Ck} (h : vCk a = vCk b) : a = b := by
  obtain ⟨⟨a1, a2, a3⟩, ⟨a4, a5, a6⟩⟩ := a
  obtain ⟨⟨b1, b2, b3⟩, ⟨b4, b5, b6⟩⟩ := b
  simp [vCk] at h
  simp [h]
def cmpCk (a b : Ck) : Int := orI [cmpTm a.s b.s, cmpTm a.p b.p]

theorem keysCk : Keyed Try.prog 54 := Keyed.of_law (deep_law_laid laidOut (m := 3) (by omega) (of_decide_eq_true (by kernel_rfl)) (by kernel_rfl) (by rw [Try.underlying54]))
def CkKey (k : Ck) : Prop := TmKey k.s ∧ TmKey k.p
theorem cellsCk : Try.prog.cellsOf 54 = 6 := by kernel_rfl
theorem lits_ck (d : Nat) {k : Ck} (h : CkKey k) : Try.prog.keyLits (d + 1 + 1 + 1) 54 (encCk k) = some [.int .i64 k.s.kind, .string k.s.s.data.toList, .string k.s.lang.data.toList, .int .i64 k.p.kind, .string k.p.s.data.toList, .string k.p.lang.data.toList] := by
  unfold Program.keyLits
  rw [Try.underlying54]
  have h0 := lits_tm d h.1
  have h1 := lits_tm d h.2
  unfold encTm at h0 h1
  simp [cellsTm, cellsCk, encCk, h0, h1]
theorem keyCk {k : Ck} (h : CkKey k) : ∃ l, keyOf Try.prog 54 (vCk k) = some l := by
  have hsz : Try.prog.types.size = 297 := by kernel_rfl
  obtain ⟨d, hd⟩ : ∃ d, Try.prog.types.size + 1 = d + 1 + 1 + 1 := ⟨297 - 2, by rw [hsz]⟩
  have hk : Try.prog.keyType 54 = true := by kernel_rfl
  have hf : (vCk k).formed Try.prog 54 = true := by
    unfold Value.formed
    rw [Try.underlying54]
    simp [cellsCk, vCk]
  have hl := lits_ck d h
  refine ⟨.string (keyBytes [.int .i64 k.s.kind, .string k.s.s.data.toList, .string k.s.lang.data.toList, .int .i64 k.p.kind, .string k.p.s.data.toList, .string k.p.lang.data.toList]), ?_⟩
  unfold keyOf
  rw [Try.underlying54]
  dsimp only
  rw [hk, hf, hd, show (vCk k).cells.toList = encCk k from rfl, hl]
  rfl
end Go.Proofs.Ytmobdmljbbckiaa
