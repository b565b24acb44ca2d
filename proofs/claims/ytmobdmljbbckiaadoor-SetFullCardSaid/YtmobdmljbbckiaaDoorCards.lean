/-
  DERIVED. GIVEN WITH THE SEED: THE CARDS: each row of YtmobdmljbbckiaaDoorRows.lean that lists a variable, with what it lists TIED to the program's text (the seventh form; the later family's looks); each row that meets fmt, with fmt's text TOLD by the authors' own Lean function (tested against real Go, not proved from fmt's source: count such statements apart). THE CARD IS WHAT COUNTS. Prove the row's statement (the work); the ties are given (YtmobdmljbbckiaaDoorTie.lean); close each card by the builder's one call (the guide's Derived/Test/ToyasCard.lean, 'card_holds'). Laid BY PROGRAM, IN A SANDBOX (cutbox-door.mjs). By AI agents, Wed Nov 11 2026. No macro, syntax, notation, axiom, sorry.
-/
import Derived.Test.YtmobdmljbbckiaaDoorRows
import GoSem.ClaimSeven
namespace Go.Proofs.YtmobdmljbbckiaaDoor
namespace Rows

/-- THE TIED CARD OF 'stratalaw4.SetFull'. -/
def setFullCard : Claim7 := { stood := { row := setFullRow, standIns := [], harness := (true, "2df332ac44fc38f4142bc6fc639b6d864582add13da5bdb5180755bfacc2ab74"), looks := true }, kinds := [], alts := [], laidByText := true, laidKinds := [.handle], laidTests := true, laidLooks := .later }
def SetFullCardSaid : Prop := Claim7.holds Tryd.pinned (.plain (OpenSpec.ofChange setFullSpec)) setFullCard

/-- THE TIED CARD OF 'stratalaw4.ChainFull'. -/
def chainFullCard : Claim7 := { stood := { row := chainFullRow, standIns := [], harness := (true, "2df332ac44fc38f4142bc6fc639b6d864582add13da5bdb5180755bfacc2ab74"), looks := true }, kinds := [], alts := [], laidByText := true, laidKinds := [.handle], laidTests := true, laidLooks := .later }
def ChainFullCardSaid : Prop := Claim7.holds Tryd.pinned (.plain (OpenSpec.ofChange chainFullSpec)) chainFullCard

/-- THE SECOND FORM's CARD OF 'stratalaw4.SetFull'. -/
def setFullUptoCard : Claim7 := { stood := { row := setFullUptoRow, standIns := [], harness := (true, "2df332ac44fc38f4142bc6fc639b6d864582add13da5bdb5180755bfacc2ab74"), looks := true }, kinds := [], alts := [], laidByText := true, laidKinds := [.handle], laidTests := true, laidLooks := .later }
def SetFullUptoCardSaid : Prop := Claim7.holds Tryd.pinned (.plain (OpenSpec.upto setFullSpec)) setFullUptoCard

/-- THE SECOND FORM's CARD OF 'stratalaw4.ChainFull'. -/
def chainFullUptoCard : Claim7 := { stood := { row := chainFullUptoRow, standIns := [], harness := (true, "2df332ac44fc38f4142bc6fc639b6d864582add13da5bdb5180755bfacc2ab74"), looks := true }, kinds := [], alts := [], laidByText := true, laidKinds := [.handle], laidTests := true, laidLooks := .later }
def ChainFullUptoCardSaid : Prop := Claim7.holds Tryd.pinned (.plain (OpenSpec.upto chainFullSpec)) chainFullUptoCard
end Rows
end Go.Proofs.YtmobdmljbbckiaaDoor
