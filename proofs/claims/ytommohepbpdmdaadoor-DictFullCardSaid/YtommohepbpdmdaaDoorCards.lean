/-
  DERIVED. GIVEN WITH THE SEED: THE CARDS: each row of YtommohepbpdmdaaDoorRows.lean that lists a variable, with what it lists TIED to the program's text (the seventh form; the later family's looks); each row that meets fmt, with fmt's text TOLD by the authors' own Lean function (tested against real Go, not proved from fmt's source: count such statements apart). THE CARD IS WHAT COUNTS. Prove the row's statement (the work); the ties are given (YtommohepbpdmdaaDoorTie.lean); close each card by the builder's one call (the guide's Derived/Test/ToyasCard.lean, 'card_holds'). Laid BY PROGRAM, IN A SANDBOX (cutbox-door.mjs). By AI agents, Wed Nov 11 2026. No macro, syntax, notation, axiom, sorry.
-/
import Derived.Test.YtommohepbpdmdaaDoorRows
import GoSem.ClaimSeven
namespace Go.Proofs.YtommohepbpdmdaaDoor
namespace Rows

/-- THE TIED CARD OF 'stratalaw4.StoreFull'. -/
def storeFullCard : Claim7 := { stood := { row := storeFullRow, standIns := [], harness := (true, "29c1936afd7bb33dcb401bd0881855d0f01ebcb43adffab64f1ebdd793ddd337"), looks := true }, kinds := [], alts := [], laidByText := true, laidKinds := [.handle], laidTests := true, laidLooks := .later }
def StoreFullCardSaid : Prop := Claim7.holds Tryd.pinned (.plain (OpenSpec.ofChange storeFullSpec)) storeFullCard

/-- THE TIED CARD OF 'stratalaw4.TripleStands'. -/
def tripleStandsCard : Claim7 := { stood := { row := tripleStandsRow, standIns := [], harness := (true, "29c1936afd7bb33dcb401bd0881855d0f01ebcb43adffab64f1ebdd793ddd337"), looks := true }, kinds := [], alts := [], laidByText := true, laidKinds := [.handle], laidTests := true, laidLooks := .later }
def TripleStandsCardSaid : Prop := Claim7.holds Tryd.pinned (.plain (OpenSpec.ofChange tripleStandsSpec)) tripleStandsCard

/-- THE TIED CARD OF 'stratalaw4.DictFull'. -/
def dictFullCard : Claim7 := { stood := { row := dictFullRow, standIns := [], harness := (true, "29c1936afd7bb33dcb401bd0881855d0f01ebcb43adffab64f1ebdd793ddd337"), looks := true }, kinds := [], alts := [], laidByText := true, laidKinds := [.handle], laidTests := true, laidLooks := .later }
def DictFullCardSaid : Prop := Claim7.holds Tryd.pinned (.plain (OpenSpec.ofChange dictFullSpec)) dictFullCard

/-- THE TIED CARD OF 'stratalaw4.SetFull'. -/
def setFullCard : Claim7 := { stood := { row := setFullRow, standIns := [], harness := (true, "29c1936afd7bb33dcb401bd0881855d0f01ebcb43adffab64f1ebdd793ddd337"), looks := true }, kinds := [], alts := [], laidByText := true, laidKinds := [.handle], laidTests := true, laidLooks := .later }
def SetFullCardSaid : Prop := Claim7.holds Tryd.pinned (.plain (OpenSpec.ofChange setFullSpec)) setFullCard

/-- THE TIED CARD OF 'stratalaw4.ChainFull'. -/
def chainFullCard : Claim7 := { stood := { row := chainFullRow, standIns := [], harness := (true, "29c1936afd7bb33dcb401bd0881855d0f01ebcb43adffab64f1ebdd793ddd337"), looks := true }, kinds := [], alts := [], laidByText := true, laidKinds := [.handle], laidTests := true, laidLooks := .later }
def ChainFullCardSaid : Prop := Claim7.holds Tryd.pinned (.plain (OpenSpec.ofChange chainFullSpec)) chainFullCard

/-- THE SECOND FORM's CARD OF 'stratalaw4.StoreFull'. -/
def storeFullUptoCard : Claim7 := { stood := { row := storeFullUptoRow, standIns := [], harness := (true, "29c1936afd7bb33dcb401bd0881855d0f01ebcb43adffab64f1ebdd793ddd337"), looks := true }, kinds := [], alts := [], laidByText := true, laidKinds := [.handle], laidTests := true, laidLooks := .later }
def StoreFullUptoCardSaid : Prop := Claim7.holds Tryd.pinned (.plain (OpenSpec.upto storeFullSpec)) storeFullUptoCard

/-- THE SECOND FORM's CARD OF 'stratalaw4.TripleStands'. -/
def tripleStandsUptoCard : Claim7 := { stood := { row := tripleStandsUptoRow, standIns := [], harness := (true, "29c1936afd7bb33dcb401bd0881855d0f01ebcb43adffab64f1ebdd793ddd337"), looks := true }, kinds := [], alts := [], laidByText := true, laidKinds := [.handle], laidTests := true, laidLooks := .later }
def TripleStandsUptoCardSaid : Prop := Claim7.holds Tryd.pinned (.plain (OpenSpec.upto tripleStandsSpec)) tripleStandsUptoCard

/-- THE SECOND FORM's CARD OF 'stratalaw4.DictFull'. -/
def dictFullUptoCard : Claim7 := { stood := { row := dictFullUptoRow, standIns := [], harness := (true, "29c1936afd7bb33dcb401bd0881855d0f01ebcb43adffab64f1ebdd793ddd337"), looks := true }, kinds := [], alts := [], laidByText := true, laidKinds := [.handle], laidTests := true, laidLooks := .later }
def DictFullUptoCardSaid : Prop := Claim7.holds Tryd.pinned (.plain (OpenSpec.upto dictFullSpec)) dictFullUptoCard

/-- THE SECOND FORM's CARD OF 'stratalaw4.SetFull'. -/
def setFullUptoCard : Claim7 := { stood := { row := setFullUptoRow, standIns := [], harness := (true, "29c1936afd7bb33dcb401bd0881855d0f01ebcb43adffab64f1ebdd793ddd337"), looks := true }, kinds := [], alts := [], laidByText := true, laidKinds := [.handle], laidTests := true, laidLooks := .later }
def SetFullUptoCardSaid : Prop := Claim7.holds Tryd.pinned (.plain (OpenSpec.upto setFullSpec)) setFullUptoCard

/-- THE SECOND FORM's CARD OF 'stratalaw4.ChainFull'. -/
def chainFullUptoCard : Claim7 := { stood := { row := chainFullUptoRow, standIns := [], harness := (true, "29c1936afd7bb33dcb401bd0881855d0f01ebcb43adffab64f1ebdd793ddd337"), looks := true }, kinds := [], alts := [], laidByText := true, laidKinds := [.handle], laidTests := true, laidLooks := .later }
def ChainFullUptoCardSaid : Prop := Claim7.holds Tryd.pinned (.plain (OpenSpec.upto chainFullSpec)) chainFullUptoCard
end Rows
end Go.Proofs.YtommohepbpdmdaaDoor
