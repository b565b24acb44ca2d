/- A range over a map in a fence. Of whatever program. -/
import Derived.Test.YtmobdmljbbckiaaMapRange
import Derived.Shelf.AbstractIn
import Derived.RangeFuncNested
import Derived.RangeFuncBound
import Derived.RangeFuncBox
import Derived.RangeFuncLeaves
import Derived.Maps.AppendAt
import Derived.Sort.MapsRangeIn
import Derived.OwnWalkIn
import Derived.TacticsInMore
import Derived.LoopNIn
import Derived.LoopIn
namespace Go.Proofs.Ytmobdmljbbckiaa
open Go.RowKit Go.Shelf Go.Maps
set_option maxHeartbeats 2000000
set_option maxRecDepth 100000

section
variable {F : Fence} {n : Nat} {P : Program} (w : World) {ops : Array Oper} {rest : List Oper} {o : Oper} {a : Act} {Q : Exit → Act → World → Prop}
/-- 'range m' in a fence -/
theorem wpListIn_range_map (hg : o.guard = none) (m : Operand) (t : TypeId) (hop : o.op = Op.range t m) (kt et : TypeId) (ht : P.underlying t = some (.map kt et)) (b : Nat) (l : List (Value × Value))
    (hm : a.eval m = .map (some b)) (h : MapAt P kt w b l)
    (hK : ∀ w', MapRange P kt w' b w.heap.size l [] → Ext w w' → w.grownBy w' none → w'.heap.size = w.heap.size + 1 → wpListIn F n P ops Q rest (a.put o.dst (.pointer (some ⟨w.heap.size, 0, none⟩))) w') :
    wpListIn F n P ops Q (o :: rest) a w := by
  refine wpListIn_plain hg fun K' hK' => ?_
  obtain ⟨w', hrun, r1, r2, r3, r4⟩ := h.range ht
  unfold Oper.wpIn
  refine ⟨?_, ?_⟩
  · simp [Oper.about, hop]
  · rw [Oper.semAt_plain F _ _ (by rw [hop]; intro c hc'; cases hc')]
    simp [execOp, hop, hm, hrun, Result.andThen]
    exact hK' _ _ (hK w' r1 r2 r3 r4)
/-- the step in a fence -/
theorem wpListIn_next_map {α : Type} (hg : o.guard = none) (it : Operand) (hop : o.op = Op.next it false) (kt : TypeId) (mkK : α → Value) (b r : Nat) (l done : List (Value × Value)) (hks : ∀ x ∈ l, ∃ t, x.1 = mkK t)
    (hit : a.eval it = .pointer (some ⟨r, 0, none⟩)) (h : MapRange P kt w b r l done)
    (hDone : done.Perm l → wpListIn F n P ops Q rest (a.put o.dst (.tuple #[.bool false])) w)
    (hMore : ∀ (x : α) (v : Value) (w' : World), (mkK x, v) ∈ l → done.length < l.length → MapRange P kt w' b r l (done ++ [(mkK x, v)]) → w'.rangeLeft b r < w.rangeLeft b r → w.grownBy w' (some r) → w'.heap.size = w.heap.size →
      (Instr.entry (.pointer (some ⟨r, 0, none⟩))).run P w' = .ok (.tuple #[mkK x, v]) w' → wpListIn F n P ops Q rest (a.put o.dst (.tuple #[.bool true, mkK x, v])) w') :
    wpListIn F n P ops Q (o :: rest) a w := by
  refine wpListIn_plain hg fun K' hK' => ?_
  unfold Oper.wpIn
  refine ⟨by simp [Oper.about, hop], ?_⟩
  rw [Oper.semAt_plain F _ _ (by rw [hop]; intro c hc'; cases hc')]
  rcases h.next o.type with ⟨h0, hrun⟩ | ⟨key, v, w', hin, _, hlt, hrun, hrg, hle, hgr, hsz, hen⟩
  · simp [execOp, hop, hit, hrun, Result.andThen]
    exact hK' _ _ (hDone h0)
  · obtain ⟨x, hx⟩ := hks _ hin
    obtain rfl : key = mkK x := hx
    simp [execOp, hop, hit, hrun, Result.andThen]
    exact hK' _ _ (hMore x v w' hin hlt hrg hle hgr hsz hen)
end

theorem keepsWalks_of {W W' : World} (h : KeepsOthers W W') : KeepsWalks W W' := ⟨h.size, fun k o hk hw => h.same k o hk (Obj.not_cells_of_walk hw)⟩
end Go.Proofs.Ytmobdmljbbckiaa
