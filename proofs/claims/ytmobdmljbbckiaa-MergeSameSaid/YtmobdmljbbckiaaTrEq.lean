/- '==' of two triples, whole. -/
import Derived.Test.YtmobdmljbbckiaaTmEq
namespace Go.Proofs.Ytmobdmljbbckiaa
open Go.RowKit
set_option maxHeartbeats 3200000
set_option maxRecDepth 100000

/-- two triples are the same -/
def trEq (a b : Tr) : Bool := decide (a = b)
theorem trEq_iff (a b : Tr) : trEq a b = true ↔ a = b := by simp [trEq]
theorem trEq_not (a b : Tr) : trEq a b = false ↔ a ≠ b := by simp [trEq]
theorem eql_tr0 (a b : Tr) (w : World) : (binOp .eql 82 (vTr a) (vTr b)).run Try.prog w = .ok (.bool (decide (a = b))) w := by
  go_simp
  simp only [toList_inj]
  obtain ⟨⟨k1, s1, g1⟩, ⟨k2, s2, g2⟩, ⟨k3, s3, g3⟩⟩ := a
  obtain ⟨⟨q1, r1, u1⟩, ⟨q2, r2, u2⟩, ⟨q3, r3, u3⟩⟩ := b
  simp only [Tr.mk.injEq, Tm.mk.injEq, ne_eq]
  by_cases h1 : k1 = q1
  case neg => simp [h1]
  by_cases h2 : s1 = r1
  case neg => simp [h1, h2]
  by_cases h3 : g1 = u1
  case neg => simp [h1, h2, h3]
  by_cases h4 : k2 = q2
  case neg => simp [h1, h2, h3, h4]
  by_cases h5 : s2 = r2
  case neg => simp [h1, h2, h3, h4, h5]
  by_cases h6 : g2 = u2
  case neg => simp [h1, h2, h3, h4, h5, h6]
  by_cases h7 : k3 = q3
  case neg => simp [h1, h2, h3, h4, h5, h6, h7]
  by_cases h8 : s3 = r3
  case neg => simp [h1, h2, h3, h4, h5, h6, h7, h8]
  by_cases h9 : g3 = u3
  case neg => simp [h1, h2, h3, h4, h5, h6, h7, h8, h9]
  simp [h1, h2, h3, h4, h5, h6, h7, h8, h9]
@[go_sem high] theorem eql_tr (k1 k2 k3 q1 q2 q3 : Int) (s1 s2 s3 g1 g2 g3 r1 r2 r3 u1 u2 u3 : ByteArray) (w : World) : (binOp .eql 82 (.agg #[.int .i64 k1, .string s1, .string g1, .int .i64 k2, .string s2, .string g2, .int .i64 k3, .string s3, .string g3]) (.agg #[.int .i64 q1, .string r1, .string u1, .int .i64 q2, .string r2, .string u2, .int .i64 q3, .string r3, .string u3])).run Try.prog w = .ok (.bool (trEq ⟨⟨k1, s1, g1⟩, ⟨k2, s2, g2⟩, ⟨k3, s3, g3⟩⟩ ⟨⟨q1, r1, u1⟩, ⟨q2, r2, u2⟩, ⟨q3, r3, u3⟩⟩)) w := eql_tr0 ⟨⟨k1, s1, g1⟩, ⟨k2, s2, g2⟩, ⟨k3, s3, g3⟩⟩ ⟨⟨q1, r1, u1⟩, ⟨q2, r2, u2⟩, ⟨q3, r3, u3⟩⟩ w
end Go.Proofs.Ytmobdmljbbckiaa
