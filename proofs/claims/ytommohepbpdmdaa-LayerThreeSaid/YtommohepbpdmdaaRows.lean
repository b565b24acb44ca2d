/-
  No cell of these rows narrows 'for every input' (looked for: loops, veiled, ifaces, maps, wideKeys, modest, calm, conditions, laid).
  DERIVED. THE GIVEN ROWS OF THIS SEAT. 8 by the template 'for every input the law returns true; each argument reads behind the call as it read before'; 0 by the template 'total and deterministic' (their statements: YtommohepbpdmdaaTotals.lean).
  GIVEN WITH THE SEED: the statements are not yours to turn. If you find one false, say at which input.
  Laid BY PROGRAM, IN A SANDBOX (cutbox-rows.mjs): the forced cells as the released guide's own fill.sh prints them over the translation e560c29374e5aa74… (all of the seat's roots in one cut). By AI agents, Wed Nov 11 2026. No macro, syntax, notation, axiom, sorry.
-/
import Derived.Test.YtommohepbpdmdaaChecked
import GoSem.Claim
import GoSem.ClaimJoined
import GoSem.ClaimMapViews
import Derived.JoinedTies
import Derived.KernelRfl
namespace Go.Proofs.Ytommohepbpdmdaa
/- THE CELL 'sum', in the pinned program and in every row, IS THE sha256 OF THE DUMP (.gsa) THAT YtommohepbpdmdaaProg.lean LOADS. Nothing in Lean hashes anything: it is a label: what it is worth is what the hold of that sum in a sandbox is worth. -/
noncomputable def Try.pinned : Pinned := { name := "ytommohepbpdmdaa", sum := "e560c29374e5aa744e061be56395892069f39e5c3a5af172502db9db40c572a6", checked := Try.checked }
namespace Rows
def none {H : Type} : Left H := { results := [], args := [] }

/-- 'stratalaw4.DagLine': WHATEVER THE INPUT: true; the input reads as it did. -/
def dagLineSpec : ChangeSpec := { name := "dagLine", fn := fun _ => fun
  | [d1, d2, d3] => { results := [.lit (.bool true)], args := [d1, d2, d3] }
  | _ => none }
def dagLineRow : OpenClaim := { program := "ytommohepbpdmdaa", sum := "e560c29374e5aa744e061be56395892069f39e5c3a5af172502db9db40c572a6", func := "strataweb/stratalaw4.DagLine", spec := "dagLine", unfollowed := true, recurses := true, plainKeys := false, apart := false }
def DagLineSaid : Prop := dagLineRow.holds Try.pinned (OpenSpec.ofChange dagLineSpec)

/-- ITS FALSE NEIGHBOUR: 'it returns false'. Refute it at one input. -/
def dagLineWrong : ChangeSpec := { name := "dagLine", fn := fun _ => fun
  | [d1, d2, d3] => { results := [.lit (.bool false)], args := [d1, d2, d3] }
  | _ => none }
def DagLineWrongFalsely : Prop := dagLineRow.holds Try.pinned (OpenSpec.ofChange dagLineWrong)

/-- 'stratalaw4.CodeLong': WHATEVER THE INPUT: true; the input reads as it did. -/
def codeLongSpec : ChangeSpec := { name := "codeLong", fn := fun _ => fun
  | [d] => { results := [.lit (.bool true)], args := [d] }
  | _ => none }
def codeLongRow : OpenClaim := { program := "ytommohepbpdmdaa", sum := "e560c29374e5aa744e061be56395892069f39e5c3a5af172502db9db40c572a6", func := "strataweb/stratalaw4.CodeLong", spec := "codeLong", inPlace := ["internal/bytealg.abigen_runtime_cmpstring"], unfollowed := true, recurses := true, plainKeys := false, apart := false }
def CodeLongSaid : Prop := codeLongRow.holds Try.pinned (OpenSpec.ofChange codeLongSpec)

/-- ITS FALSE NEIGHBOUR: 'it returns false'. Refute it at one input. -/
def codeLongWrong : ChangeSpec := { name := "codeLong", fn := fun _ => fun
  | [d] => { results := [.lit (.bool false)], args := [d] }
  | _ => none }
def CodeLongWrongFalsely : Prop := codeLongRow.holds Try.pinned (OpenSpec.ofChange codeLongWrong)

/-- 'stratalaw4.MatchTwice': WHATEVER THE INPUT: true; the input reads as it did. -/
def matchTwiceSpec : ChangeSpec := { name := "matchTwice", fn := fun _ => fun
  | [d] => { results := [.lit (.bool true)], args := [d] }
  | _ => none }
def matchTwiceRow : OpenClaim := { program := "ytommohepbpdmdaa", sum := "e560c29374e5aa744e061be56395892069f39e5c3a5af172502db9db40c572a6", func := "strataweb/stratalaw4.MatchTwice", spec := "matchTwice", inPlace := ["internal/bytealg.abigen_runtime_cmpstring"], unfollowed := true, recurses := true, plainKeys := false, apart := false }
def MatchTwiceSaid : Prop := matchTwiceRow.holds Try.pinned (OpenSpec.ofChange matchTwiceSpec)

/-- ITS FALSE NEIGHBOUR: 'it returns false'. Refute it at one input. -/
def matchTwiceWrong : ChangeSpec := { name := "matchTwice", fn := fun _ => fun
  | [d] => { results := [.lit (.bool false)], args := [d] }
  | _ => none }
def MatchTwiceWrongFalsely : Prop := matchTwiceRow.holds Try.pinned (OpenSpec.ofChange matchTwiceWrong)

/-- 'stratalaw4.PlanAll': WHATEVER THE INPUT: true; the input reads as it did. -/
def planAllSpec : ChangeSpec := { name := "planAll", fn := fun _ => fun
  | [d1, d2] => { results := [.lit (.bool true)], args := [d1, d2] }
  | _ => none }
def planAllRow : OpenClaim := { program := "ytommohepbpdmdaa", sum := "e560c29374e5aa744e061be56395892069f39e5c3a5af172502db9db40c572a6", func := "strataweb/stratalaw4.PlanAll", spec := "planAll", inPlace := ["internal/bytealg.abigen_runtime_cmpstring"], unfollowed := true, recurses := true, plainKeys := false, apart := false }
def PlanAllSaid : Prop := planAllRow.holds Try.pinned (OpenSpec.ofChange planAllSpec)

/-- ITS FALSE NEIGHBOUR: 'it returns false'. Refute it at one input. -/
def planAllWrong : ChangeSpec := { name := "planAll", fn := fun _ => fun
  | [d1, d2] => { results := [.lit (.bool false)], args := [d1, d2] }
  | _ => none }
def PlanAllWrongFalsely : Prop := planAllRow.holds Try.pinned (OpenSpec.ofChange planAllWrong)

/-- 'stratalaw4.TermQuotes': WHATEVER THE INPUT: true; the input reads as it did. -/
def termQuotesSpec : ChangeSpec := { name := "termQuotes", fn := fun _ => fun
  | [d1, d2] => { results := [.lit (.bool true)], args := [d1, d2] }
  | _ => none }
def termQuotesRow : OpenClaim := { program := "ytommohepbpdmdaa", sum := "e560c29374e5aa744e061be56395892069f39e5c3a5af172502db9db40c572a6", func := "strataweb/stratalaw4.TermQuotes", spec := "termQuotes", inPlace := ["sync/atomic.LoadUint32", "(*internal/sync.Mutex).Lock", "internal/race.Disable", "sync/atomic.CompareAndSwapInt32", "internal/race.Enable", "internal/race.Acquire", "(*internal/sync.Mutex).lockSlow", "internal/sync.runtime_canSpin", "internal/sync.runtime_doSpin", "internal/sync.throw", "internal/sync.runtime_nanotime", "internal/sync.runtime_SemacquireMutex", "sync/atomic.AddInt32", "(*internal/sync.Mutex).Unlock", "internal/race.ReleaseMerge", "(*internal/sync.Mutex).unlockSlow", "internal/sync.fatal", "internal/sync.runtime_Semrelease", "sync/atomic.StoreUint32", "internal/bytealg.abigen_runtime_cmpstring"], unfollowed := true, recurses := true, plainKeys := false, apart := false }
def TermQuotesSaid : Prop := termQuotesRow.holds Try.pinned (OpenSpec.ofChange termQuotesSpec)

/-- ITS FALSE NEIGHBOUR: 'it returns false'. Refute it at one input. -/
def termQuotesWrong : ChangeSpec := { name := "termQuotes", fn := fun _ => fun
  | [d1, d2] => { results := [.lit (.bool false)], args := [d1, d2] }
  | _ => none }
def TermQuotesWrongFalsely : Prop := termQuotesRow.holds Try.pinned (OpenSpec.ofChange termQuotesWrong)

/-- 'stratalaw4.MergeSame': WHATEVER THE INPUT: true; the input reads as it did. -/
def mergeSameSpec : ChangeSpec := { name := "mergeSame", fn := fun _ => fun
  | [d1, d2, d3] => { results := [.lit (.bool true)], args := [d1, d2, d3] }
  | _ => none }
def mergeSameRow : OpenClaim := { program := "ytommohepbpdmdaa", sum := "e560c29374e5aa744e061be56395892069f39e5c3a5af172502db9db40c572a6", func := "strataweb/stratalaw4.MergeSame", spec := "mergeSame", inPlace := ["internal/bytealg.abigen_runtime_cmpstring"], unfollowed := true, recurses := true, plainKeys := false, apart := false }
def MergeSameSaid : Prop := mergeSameRow.holds Try.pinned (OpenSpec.ofChange mergeSameSpec)

/-- ITS FALSE NEIGHBOUR: 'it returns false'. Refute it at one input. -/
def mergeSameWrong : ChangeSpec := { name := "mergeSame", fn := fun _ => fun
  | [d1, d2, d3] => { results := [.lit (.bool false)], args := [d1, d2, d3] }
  | _ => none }
def MergeSameWrongFalsely : Prop := mergeSameRow.holds Try.pinned (OpenSpec.ofChange mergeSameWrong)

/-- 'stratalaw4.LayerThree': WHATEVER THE INPUT: true; the input reads as it did. -/
def layerThreeSpec : ChangeSpec := { name := "layerThree", fn := fun _ => fun
  | [d1, d2, d3, d4] => { results := [.lit (.bool true)], args := [d1, d2, d3, d4] }
  | _ => none }
def layerThreeRow : OpenClaim := { program := "ytommohepbpdmdaa", sum := "e560c29374e5aa744e061be56395892069f39e5c3a5af172502db9db40c572a6", func := "strataweb/stratalaw4.LayerThree", spec := "layerThree", inPlace := ["internal/bytealg.abigen_runtime_cmpstring"], unfollowed := true, recurses := true, plainKeys := false, apart := false }
def LayerThreeSaid : Prop := layerThreeRow.holds Try.pinned (OpenSpec.ofChange layerThreeSpec)

/-- ITS FALSE NEIGHBOUR: 'it returns false'. Refute it at one input. -/
def layerThreeWrong : ChangeSpec := { name := "layerThree", fn := fun _ => fun
  | [d1, d2, d3, d4] => { results := [.lit (.bool false)], args := [d1, d2, d3, d4] }
  | _ => none }
def LayerThreeWrongFalsely : Prop := layerThreeRow.holds Try.pinned (OpenSpec.ofChange layerThreeWrong)

/-- 'stratalaw4.SolveTurns': WHATEVER THE INPUT: true; the input reads as it did. -/
def solveTurnsSpec : ChangeSpec := { name := "solveTurns", fn := fun _ => fun
  | [d1, d2] => { results := [.lit (.bool true)], args := [d1, d2] }
  | _ => none }
def solveTurnsRow : OpenClaim := { program := "ytommohepbpdmdaa", sum := "e560c29374e5aa744e061be56395892069f39e5c3a5af172502db9db40c572a6", func := "strataweb/stratalaw4.SolveTurns", spec := "solveTurns", inPlace := ["internal/bytealg.abigen_runtime_cmpstring", "maps.clone"], unfollowed := true, recurses := true, plainKeys := false, apart := false }
def SolveTurnsSaid : Prop := solveTurnsRow.holds Try.pinned (OpenSpec.ofChange solveTurnsSpec)

/-- ITS FALSE NEIGHBOUR: 'it returns false'. Refute it at one input. -/
def solveTurnsWrong : ChangeSpec := { name := "solveTurns", fn := fun _ => fun
  | [d1, d2] => { results := [.lit (.bool false)], args := [d1, d2] }
  | _ => none }
def SolveTurnsWrongFalsely : Prop := solveTurnsRow.holds Try.pinned (OpenSpec.ofChange solveTurnsWrong)

/- THE SECOND FORM. 'bulk': how many values and letters a reading holds, each counted each time it is reached (what is shared counts as often as it is met; a slice's spare places count too). A statement '..UptoSaid' is the law's where the arguments, and the package variables that the reading takes, are together of bulk at most 1048576: NARROWER than '..Said'. Prove '..Said' where nothing that the law and all that it calls make is longer than what came in: it says more and counts as full. Else prove '..UptoSaid'. A law counts once. -/
mutual
def uptoBulk {H : Type} : DataW H → Nat
  | .lit (.string bytes) => bytes.length + 1
  | .lit _ => 1
  | .nil => 1
  | .ptr d => uptoBulk d + 1
  | .slice elems spare => uptoBulkAll elems + uptoBulkAll spare + 1
  | .agg parts => uptoBulkAll parts + 1
  | .iface _ d => uptoBulk d + 1
  | .map entries => uptoBulkEntries entries + 1
  | .held _ => 1
def uptoBulkAll {H : Type} : List (DataW H) → Nat
  | [] => 0
  | d :: r => uptoBulk d + uptoBulkAll r
def uptoBulkEntries {H : Type} : List (Lit × DataW H) → Nat
  | [] => 0
  | x :: r => uptoBulkEntry x + uptoBulkEntries r
def uptoBulkEntry {H : Type} : Lit × DataW H → Nat
  | (.string bytes, d) => bytes.length + uptoBulk d + 1
  | (_, d) => uptoBulk d + 1
 end
def uptoSmall : (H : Type) → List (DataW H) → Bool := fun _ ds => decide (uptoBulkAll ds ≤ 1048576)
def OpenSpec.upto (s : _root_.Go.ChangeSpec) : _root_.Go.OpenSpec := { _root_.Go.OpenSpec.ofChange s with cond := some uptoSmall }

/-- 'stratalaw4.DagLine', WHERE WHAT IT READS IS OF BULK AT MOST 1048576: true; the input reads as it did. -/
def dagLineUptoRow : OpenClaim := { program := "ytommohepbpdmdaa", sum := "e560c29374e5aa744e061be56395892069f39e5c3a5af172502db9db40c572a6", func := "strataweb/stratalaw4.DagLine", spec := "dagLine", unfollowed := true, recurses := true, plainKeys := false, apart := false, narrowed := true }
def DagLineUptoSaid : Prop := dagLineUptoRow.holds Try.pinned (OpenSpec.upto dagLineSpec)

/-- 'stratalaw4.CodeLong', WHERE WHAT IT READS IS OF BULK AT MOST 1048576: true; the input reads as it did. -/
def codeLongUptoRow : OpenClaim := { program := "ytommohepbpdmdaa", sum := "e560c29374e5aa744e061be56395892069f39e5c3a5af172502db9db40c572a6", func := "strataweb/stratalaw4.CodeLong", spec := "codeLong", inPlace := ["internal/bytealg.abigen_runtime_cmpstring"], unfollowed := true, recurses := true, plainKeys := false, apart := false, narrowed := true }
def CodeLongUptoSaid : Prop := codeLongUptoRow.holds Try.pinned (OpenSpec.upto codeLongSpec)

/-- 'stratalaw4.MatchTwice', WHERE WHAT IT READS IS OF BULK AT MOST 1048576: true; the input reads as it did. -/
def matchTwiceUptoRow : OpenClaim := { program := "ytommohepbpdmdaa", sum := "e560c29374e5aa744e061be56395892069f39e5c3a5af172502db9db40c572a6", func := "strataweb/stratalaw4.MatchTwice", spec := "matchTwice", inPlace := ["internal/bytealg.abigen_runtime_cmpstring"], unfollowed := true, recurses := true, plainKeys := false, apart := false, narrowed := true }
def MatchTwiceUptoSaid : Prop := matchTwiceUptoRow.holds Try.pinned (OpenSpec.upto matchTwiceSpec)

/-- 'stratalaw4.PlanAll', WHERE WHAT IT READS IS OF BULK AT MOST 1048576: true; the input reads as it did. -/
def planAllUptoRow : OpenClaim := { program := "ytommohepbpdmdaa", sum := "e560c29374e5aa744e061be56395892069f39e5c3a5af172502db9db40c572a6", func := "strataweb/stratalaw4.PlanAll", spec := "planAll", inPlace := ["internal/bytealg.abigen_runtime_cmpstring"], unfollowed := true, recurses := true, plainKeys := false, apart := false, narrowed := true }
def PlanAllUptoSaid : Prop := planAllUptoRow.holds Try.pinned (OpenSpec.upto planAllSpec)

/-- 'stratalaw4.TermQuotes', WHERE WHAT IT READS IS OF BULK AT MOST 1048576: true; the input reads as it did. -/
def termQuotesUptoRow : OpenClaim := { program := "ytommohepbpdmdaa", sum := "e560c29374e5aa744e061be56395892069f39e5c3a5af172502db9db40c572a6", func := "strataweb/stratalaw4.TermQuotes", spec := "termQuotes", inPlace := ["sync/atomic.LoadUint32", "(*internal/sync.Mutex).Lock", "internal/race.Disable", "sync/atomic.CompareAndSwapInt32", "internal/race.Enable", "internal/race.Acquire", "(*internal/sync.Mutex).lockSlow", "internal/sync.runtime_canSpin", "internal/sync.runtime_doSpin", "internal/sync.throw", "internal/sync.runtime_nanotime", "internal/sync.runtime_SemacquireMutex", "sync/atomic.AddInt32", "(*internal/sync.Mutex).Unlock", "internal/race.ReleaseMerge", "(*internal/sync.Mutex).unlockSlow", "internal/sync.fatal", "internal/sync.runtime_Semrelease", "sync/atomic.StoreUint32", "internal/bytealg.abigen_runtime_cmpstring"], unfollowed := true, recurses := true, plainKeys := false, apart := false, narrowed := true }
def TermQuotesUptoSaid : Prop := termQuotesUptoRow.holds Try.pinned (OpenSpec.upto termQuotesSpec)

/-- 'stratalaw4.MergeSame', WHERE WHAT IT READS IS OF BULK AT MOST 1048576: true; the input reads as it did. -/
def mergeSameUptoRow : OpenClaim := { program := "ytommohepbpdmdaa", sum := "e560c29374e5aa744e061be56395892069f39e5c3a5af172502db9db40c572a6", func := "strataweb/stratalaw4.MergeSame", spec := "mergeSame", inPlace := ["internal/bytealg.abigen_runtime_cmpstring"], unfollowed := true, recurses := true, plainKeys := false, apart := false, narrowed := true }
def MergeSameUptoSaid : Prop := mergeSameUptoRow.holds Try.pinned (OpenSpec.upto mergeSameSpec)

/-- 'stratalaw4.LayerThree', WHERE WHAT IT READS IS OF BULK AT MOST 1048576: true; the input reads as it did. -/
def layerThreeUptoRow : OpenClaim := { program := "ytommohepbpdmdaa", sum := "e560c29374e5aa744e061be56395892069f39e5c3a5af172502db9db40c572a6", func := "strataweb/stratalaw4.LayerThree", spec := "layerThree", inPlace := ["internal/bytealg.abigen_runtime_cmpstring"], unfollowed := true, recurses := true, plainKeys := false, apart := false, narrowed := true }
def LayerThreeUptoSaid : Prop := layerThreeUptoRow.holds Try.pinned (OpenSpec.upto layerThreeSpec)

/-- 'stratalaw4.SolveTurns', WHERE WHAT IT READS IS OF BULK AT MOST 1048576: true; the input reads as it did. -/
def solveTurnsUptoRow : OpenClaim := { program := "ytommohepbpdmdaa", sum := "e560c29374e5aa744e061be56395892069f39e5c3a5af172502db9db40c572a6", func := "strataweb/stratalaw4.SolveTurns", spec := "solveTurns", inPlace := ["internal/bytealg.abigen_runtime_cmpstring", "maps.clone"], unfollowed := true, recurses := true, plainKeys := false, apart := false, narrowed := true }
def SolveTurnsUptoSaid : Prop := solveTurnsUptoRow.holds Try.pinned (OpenSpec.upto solveTurnsSpec)

end Rows
end Go.Proofs.Ytommohepbpdmdaa
