/- Terms and triples, opened. -/
import Derived.Test.YtmobdmljbbckiaaArgs
import Derived.Test.YtmobdmljbbckiaaTermPure
import Derived.Test.YtmobdmljbbckiaaRow
namespace Go.Proofs.Ytmobdmljbbckiaa
open Go.ChangeShapes Go.WideShapes Go.RowKit
set_option maxRecDepth 100000

/-- a term's texts are texts -/
def TmGood (t : Tm) : Prop := t.s.size ≤ maxLen ∧ t.lang.size ≤ maxLen
def TrGood (t : Tr) : Prop := TmGood t.s ∧ TmGood t.p ∧ TmGood t.o

theorem opens_tm : Opens Try.prog 28 3 encTm (fun _ => TmGood) :=
  (Opens.struct3 (P := Try.prog) (T := 28) Try.underlying28 (by kernel_rfl) (Opens.int Try.underlying3 (by kernel_rfl)) (Opens.string Try.underlying9 (by kernel_rfl)) (Opens.string Try.underlying9 (by kernel_rfl)) rfl rfl rfl).map
    (fun a => ⟨a.1, a.2.1, a.2.2⟩) (fun _ => rfl) (fun _ => rfl) (fun _ _ h => ⟨h.2.1, h.2.2⟩)

theorem opens_tr : Opens Try.prog 82 9 encTr (fun _ => TrGood) :=
  (Opens.struct3 (P := Try.prog) (T := 82) Try.underlying82 (by kernel_rfl) opens_tm opens_tm opens_tm rfl rfl rfl).map
    (fun a => ⟨a.1, a.2.1, a.2.2⟩) (fun _ => rfl) (fun _ => rfl) (fun _ _ h => h)

section
variable {H : Type} {enc : TypeId × Value → H} {w : World} {r : Reach} {b0 : Nat} {v : Value} {d : DataW H} {ps : List MemPlace}
theorem open_set (hval : Value.okWide Try.prog w r b0 22 v) (hd : DataW.Trod enc Try.prog w 0 (fun _ => true) true 22 v d ps) : ∃ l, Reads encTr w v l ∧ ∀ x ∈ l, TrGood x :=
  opens_tr.vslice (by decide) Try.underlying22 (by kernel_rfl) hval hd
theorem open_tm (hval : Value.okWide Try.prog w r b0 28 v) (hd : DataW.Trod enc Try.prog w 0 (fun _ => true) true 28 v d ps) : ∃ t, v = vTm t ∧ TmGood t :=
  opens_tm.vagg Try.underlying28 hval hd
end
end Go.Proofs.Ytmobdmljbbckiaa
