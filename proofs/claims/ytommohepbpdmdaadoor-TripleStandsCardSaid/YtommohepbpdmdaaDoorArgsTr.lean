/- Terms and triples, opened. -/
import Derived.Test.YtommohepbpdmdaaDoorArgs
import Derived.Test.YtommohepbpdmdaaDoorTermPure
import Derived.Test.YtommohepbpdmdaaDoorRow
namespace Go.Proofs.YtommohepbpdmdaaDoor
open Go.ChangeShapes Go.WideShapes Go.RowKit
set_option maxRecDepth 100000

/-- a term's texts are texts -/
def TmGood (t : Tm) : Prop := t.s.size ≤ maxLen ∧ t.lang.size ≤ maxLen
def TrGood (t : Tr) : Prop := TmGood t.s ∧ TmGood t.p ∧ TmGood t.o

theorem opens_tm : Opens Tryd.prog 25 3 encTm (fun _ => TmGood) :=
  (Opens.struct3 (P := Tryd.prog) (T := 25) Tryd.underlying25 (by kernel_rfl) (Opens.int Tryd.underlying3 (by kernel_rfl)) (Opens.string Tryd.underlying9 (by kernel_rfl)) (Opens.string Tryd.underlying9 (by kernel_rfl)) rfl rfl rfl).map
    (fun a => ⟨a.1, a.2.1, a.2.2⟩) (fun _ => rfl) (fun _ => rfl) (fun _ _ h => ⟨h.2.1, h.2.2⟩)

theorem opens_tr : Opens Tryd.prog 36 9 encTr (fun _ => TrGood) :=
  (Opens.struct3 (P := Tryd.prog) (T := 36) Tryd.underlying36 (by kernel_rfl) opens_tm opens_tm opens_tm rfl rfl rfl).map
    (fun a => ⟨a.1, a.2.1, a.2.2⟩) (fun _ => rfl) (fun _ => rfl) (fun _ _ h => h)

section
variable {H : Type} {enc : TypeId × Value → H} {w : World} {r : Reach} {b0 : Nat} {v : Value} {d : DataW H} {ps : List MemPlace}
theorem open_set (hval : Value.okWide Tryd.prog w r b0 45 v) (hd : DataW.Trod enc Tryd.prog w 0 (fun _ => true) true 45 v d ps) : ∃ l, Reads encTr w v l ∧ ∀ x ∈ l, TrGood x :=
  opens_tr.vslice (by decide) Tryd.underlying45 (by kernel_rfl) hval hd
theorem open_tm (hval : Value.okWide Tryd.prog w r b0 25 v) (hd : DataW.Trod enc Tryd.prog w 0 (fun _ => true) true 25 v d ps) : ∃ t, v = vTm t ∧ TmGood t :=
  opens_tm.vagg Tryd.underlying25 hval hd
end
end Go.Proofs.YtommohepbpdmdaaDoor
