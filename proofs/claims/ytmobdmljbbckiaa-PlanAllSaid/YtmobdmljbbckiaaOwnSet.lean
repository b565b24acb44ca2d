/- Sets in memory of the call's own. -/
import Derived.Test.YtmobdmljbbckiaaTermPure
import Derived.Test.YtmobdmljbbckiaaChecked
namespace Go.Proofs.Ytmobdmljbbckiaa
open Go.RowKit
set_option maxHeartbeats 3200000
set_option maxRecDepth 100000

theorem infoTr : ∃ i z, Try.prog.info? 82 = some i ∧ i.zero = some z ∧ i.size = 9 ∧ i.bytes = 120 ∧ z.cells.size = 9 := ⟨_, _, rfl, rfl, rfl, rfl, rfl⟩
/-- a set in memory of the call's own -/
def OwnSet (B : Nat) (w : World) (v : Value) (l : List Tr) : Prop := w.ownsRow B 82 9 v l.length (l.flatMap encTr)
theorem OwnSet.ext {B : Nat} {w w' : World} {v : Value} {l : List Tr} (h : OwnSet B w v l) (hx : Ext w w') : OwnSet B w' v l := own_ext h hx
theorem OwnSet.reads {B : Nat} {w : World} {v : Value} {l : List Tr} (h : OwnSet B w v l) : Reads encTr w v l := Reads.of_owns h
theorem OwnSet.mono {B B' : Nat} {w : World} {v : Value} {l : List Tr} (h : OwnSet B w v l) (hB : B' ≤ B) : OwnSet B' w v l := own_mono h hB
theorem OwnSet.slice {B : Nat} {w : World} {v : Value} {l : List Tr} (h : OwnSet B w v l) : ∃ a cap, v = .slice a l.length cap := sliceOf_own h
theorem OwnSet.nil (B : Nat) (w : World) : OwnSet B w (.slice none 0 0) [] := World.ownsRow_nil _ _ _ _
theorem Reads.slice {α : Type} {enc : α → List Value} {w : World} {v : Value} {l : List α} (h : Reads enc w v l) : ∃ a cap, v = .slice a l.length cap := by
  obtain ⟨a, cap, h, _⟩ := h; exact ⟨a, cap, h⟩

end Go.Proofs.Ytmobdmljbbckiaa
