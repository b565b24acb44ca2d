/- '==' of two terms, whole. -/
import Derived.Test.YtmobdmljbbckiaaErrs
import Derived.Test.YtmobdmljbbckiaaTermPure
namespace Go.Proofs.Ytmobdmljbbckiaa
open Go.RowKit
set_option maxHeartbeats 1600000
set_option maxRecDepth 100000

theorem toList_inj (a b : ByteArray) : a.toList = b.toList ↔ a = b := by
  rw [ByteArray.toList_eq, ByteArray.toList_eq]
  constructor
  · intro h
    cases a; cases b
    simp only [ByteArray.mk.injEq]
    exact Array.toList_inj.1 h
  · rintro rfl; rfl
theorem eql_tm0 (a b : Tm) (w : World) : (binOp .eql 28 (vTm a) (vTm b)).run Try.prog w = .ok (.bool (decide (a = b))) w := by
  go_simp
  simp only [toList_inj]
  obtain ⟨k, s, g⟩ := a
  obtain ⟨k', s', g'⟩ := b
  simp only [Tm.mk.injEq]
  by_cases h1 : k = k' <;> by_cases h2 : s = s' <;> by_cases h3 : g = g' <;> simp [h1, h2, h3]
@[go_sem high] theorem eql_tm (k k' : Int) (s s' g g' : ByteArray) (w : World) : (binOp .eql 28 (.agg #[.int .i64 k, .string s, .string g]) (.agg #[.int .i64 k', .string s', .string g'])).run Try.prog w = .ok (.bool (tmEq ⟨k, s, g⟩ ⟨k', s', g'⟩)) w := eql_tm0 ⟨k, s, g⟩ ⟨k', s', g'⟩ w
theorem test_tm (k k' : Int) (s s' g g' : ByteArray) (q : Bool) (hq : tmEq ⟨k, s, g⟩ ⟨k', s', g'⟩ = q) (w : World) : (binOp .eql 28 (.agg #[.int .i64 k, .string s, .string g]) (.agg #[.int .i64 k', .string s', .string g'])).run Try.prog w = .ok (.bool q) w := by
  go_simp

end Go.Proofs.Ytmobdmljbbckiaa
