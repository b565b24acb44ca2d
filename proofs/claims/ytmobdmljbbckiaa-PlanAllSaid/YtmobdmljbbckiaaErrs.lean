/- Errors: an Errno in an interface, held against nil and against another one. -/
import Derived.Test.YtmobdmljbbckiaaChecked
import Derived.Test.YtmobdmljbbckiaaBase
import Derived.LaidEql
import Derived.Lib.IfaceEq
import Derived.Lib.IfaceNeq
namespace Go.Proofs.Ytmobdmljbbckiaa
open Go.RowKit

/-- The number of an error: of an interface value. -/
abbrev eV (n : Int) : Value := .iface 84 (.int .i64 n)

theorem underErr : Try.prog.underlying 36 = some (.interface (Try.prog.methodsAt 36)) := by kernel_rfl

@[go_sem] theorem eql_nil_e (n : Int) (w : World) : (binOp .eql 36 .nilIface (.iface 84 (.int .i64 n))).run Try.prog w = .ok (.bool false) w :=
  run_eql_iface_nil_left w _ _ underErr
@[go_sem] theorem eql_e_e (a b : Int) (w : World) : (binOp .eql 36 (.iface 84 (.int .i64 a)) (.iface 84 (.int .i64 b))).run Try.prog w = .ok (.bool (a == b)) w :=
  Lib.run_eql_iface_int w a b underErr (by kernel_rfl) Try.underlying84
@[go_sem] theorem neq_e_e (a b : Int) (w : World) : (binOp .neq 36 (.iface 84 (.int .i64 a)) (.iface 84 (.int .i64 b))).run Try.prog w = .ok (.bool (!(a == b))) w :=
  Lib.run_neq_iface_int w a b underErr (by kernel_rfl) Try.underlying84

/-- a result that a cell holds -/
theorem results_cell {fn : Func} {t : Tmp} {T : TypeId} (h : fn.results = #[.cell t T]) {tmps : Array Value} {P : Program} {w : World} {ad : Addr} {v : Value} (hp : tmps.getD t undef = .pointer (some ad))
    (hl : (loadVar T ad).run P w = .ok v w) : (results fn tmps).run P w = .ok v w := by
  have hp' : tmps[t]?.getD undef = .pointer (some ad) := by simpa using hp
  simp [results, h, hp', asAddr, hl, Result.andThen]

/-- .. of two, the first of which a cell holds -/
theorem results_cell_tmp {fn : Func} {t s : Tmp} {T : TypeId} (h : fn.results = #[.cell t T, .tmp s]) {tmps : Array Value} {P : Program} {w : World} {ad : Addr} {v u : Value} (hp : tmps.getD t undef = .pointer (some ad))
    (hl : (loadVar T ad).run P w = .ok v w) (hu : tmps.getD s undef = u) : (results fn tmps).run P w = .ok (.tuple #[v, u]) w := by
  have hp' : tmps[t]?.getD undef = .pointer (some ad) := by simpa using hp
  have hu' : tmps[s]?.getD undef = u := by simpa using hu
  simp [results, h, hp', hu', asAddr, hl, Result.andThen]

end Go.Proofs.Ytmobdmljbbckiaa
