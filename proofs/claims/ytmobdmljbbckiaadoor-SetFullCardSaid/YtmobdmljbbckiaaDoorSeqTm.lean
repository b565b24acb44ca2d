/- slices.Collect over maps.Keys at a map of terms: each key once, in some order. -/
import Derived.Test.YtmobdmljbbckiaaDoorKeyTm
import Derived.Test.YtmobdmljbbckiaaDoorMapRange
import Derived.Shelf.AbstractIn
import Derived.RangeFuncNested
import Derived.RangeFuncBound
import Derived.RangeFuncBox
import Derived.RangeFuncLeaves
import Derived.Maps.AppendAt
import Derived.Sort.MapsRangeIn
import Derived.OwnWalkIn
import Derived.TacticsInMore
import Derived.LoopNIn
import Derived.LoopIn
namespace Go.Proofs.YtmobdmljbbckiaaDoor
open Go.RowKit Go.Shelf Go.Maps
set_option maxHeartbeats 2000000
set_option maxRecDepth 100000
attribute [local go_sem] Oper.semAt_some

section
variable {F : Fence} {n : Nat} {P : Program} (w : World) {ops : Array Oper} {rest : List Oper} {o : Oper} {a : Act} {Q : Exit → Act → World → Prop}
/-- 'range m' in a fence -/
theorem wpListIn_range_map (hg : o.guard = none) (m : Operand) (t : TypeId) (hop : o.op = Op.range t m) (kt et : TypeId) (ht : P.underlying t = some (.map kt et)) (b : Nat) (l : List (Value × Value))
    (hm : a.eval m = .map (some b)) (h : MapAt P kt w b l)
    (hK : ∀ w', MapRange P kt w' b w.heap.size l [] → Ext w w' → w.grownBy w' none → w'.heap.size = w.heap.size + 1 → wpListIn F n P ops Q rest (a.put o.dst (.pointer (some ⟨w.heap.size, 0, none⟩))) w') :
    wpListIn F n P ops Q (o :: rest) a w := by
  refine wpListIn_plain hg fun K' hK' => ?_
  obtain ⟨w', hrun, r1, r2, r3, r4⟩ := h.range ht
  unfold Oper.wpIn
  refine ⟨?_, ?_⟩
  · simp [Oper.about, hop]
  · rw [Oper.semAt_plain F _ _ (by rw [hop]; intro c hc'; cases hc')]
    simp [execOp, hop, hm, hrun, Result.andThen]
    exact hK' _ _ (hK w' r1 r2 r3 r4)
/-- the step in a fence -/
theorem wpListIn_next_map {α : Type} (hg : o.guard = none) (it : Operand) (hop : o.op = Op.next it false) (kt : TypeId) (mkK : α → Value) (b r : Nat) (l done : List (Value × Value)) (hks : ∀ x ∈ l, ∃ t, x.1 = mkK t)
    (hit : a.eval it = .pointer (some ⟨r, 0, none⟩)) (h : MapRange P kt w b r l done)
    (hDone : done.Perm l → wpListIn F n P ops Q rest (a.put o.dst (.tuple #[.bool false])) w)
    (hMore : ∀ (x : α) (v : Value) (w' : World), (mkK x, v) ∈ l → done.length < l.length → MapRange P kt w' b r l (done ++ [(mkK x, v)]) → w'.rangeLeft b r < w.rangeLeft b r → w.grownBy w' (some r) → w'.heap.size = w.heap.size →
      (Instr.entry (.pointer (some ⟨r, 0, none⟩))).run P w' = .ok (.tuple #[mkK x, v]) w' → wpListIn F n P ops Q rest (a.put o.dst (.tuple #[.bool true, mkK x, v])) w') :
    wpListIn F n P ops Q (o :: rest) a w := by
  refine wpListIn_plain hg fun K' hK' => ?_
  unfold Oper.wpIn
  refine ⟨by simp [Oper.about, hop], ?_⟩
  rw [Oper.semAt_plain F _ _ (by rw [hop]; intro c hc'; cases hc')]
  rcases h.next o.type with ⟨h0, hrun⟩ | ⟨key, v, w', hin, _, hlt, hrun, hrg, hle, hgr, hsz, hen⟩
  · simp [execOp, hop, hit, hrun, Result.andThen]
    exact hK' _ _ (hDone h0)
  · obtain ⟨x, hx⟩ := hks _ hin
    obtain rfl : key = mkK x := hx
    simp [execOp, hop, hit, hrun, Result.andThen]
    exact hK' _ _ (hMore x v w' hin hlt hrg hle hgr hsz hen)
end

/-- maps.Keys's iterator -/
theorem keys1_tm (F : Fence) (n : Nat) (hF : F.fn 36) (hro : F.round = none) (hn : 1 ≤ n) (l Bm b : Nat) (ps : List (Value × Value)) (hps : ∀ x ∈ ps, ∃ t, x.1 = vTm t) (J Jx : List Tm → World → Prop)
    (hY : ∀ pre x W, J pre W → pre.length < ps.length → YieldAt F (n - 1) Tryd.prog l #[vTm x] W fun e W' =>
      (e = .returned (.bool true) ∧ J (pre ++ [x]) W' ∧ KeepsWalks W W') ∨ (e = .returned (.bool false) ∧ Jx (pre ++ [x]) W'))
    (W : World) (hJ : AbidesFrom W.heap.size J) (hm : W.cell? ⟨Bm, 0, none⟩ = some (.map (some b))) (hown : MapAt Tryd.prog 25 W b ps) (h0 : J [] W) :
    CallsIn F n Tryd.prog 36 #[.func (.yield l) #[] #[], .pointer (some ⟨Bm, 0, none⟩)] W fun e W' => (∃ v, e = .returned v) ∧
      ((∃ ss : List Tm, (ss.map vTm).Perm (ps.map (·.1)) ∧ J ss W') ∨ (∃ pre : List Tm, True ∧ Jx pre W')) := by
  refine callsIn_of_wp Tryd.func36 rfl hF ?_ hro
  simp only [Tryd.ntmps36, List.size_toArray, List.length_cons, List.length_nil, Nat.reduceAdd, Nat.reduceSub, Array.replicate_succ, Array.replicate_zero, List.push_toArray, List.append_toArray, List.nil_append, List.cons_append]
  gi_wp2_with (first
    | (gi_at_range; refine wpListIn_range_map _ rfl _ 54 rfl 25 4 Tryd.underlying54 b ps rfl hown ?_; intro w0 hrg0 hx0 hg0 hs0)
    | gi_in)
  go_frame
  gi_loopw [3] (fun _ wr => ∃ (ss : List Tm) (done : List (Value × Value)), ss.map vTm = done.map (·.1) ∧ MapRange Tryd.prog 25 wr b W.heap.size ps done ∧ J ss wr)
    (fun _ wr => wr.rangeLeft b W.heap.size)
  case atStart => exact ⟨[], [], rfl, hrg0, hJ [] W w0 none h0 hg0 (fun r e => by cases e)⟩
  case round =>
    obtain ⟨ss, done, hss, hrg, hJs⟩ := hrel
    gi_wp2_with (first
      | (gi_at_next; refine wpListIn_next_map _ rfl _ rfl 25 vTm b W.heap.size ps done hps rfl hrg ?_ ?_)
      | gi_in)
    · intro hd
      gi_wp2
      go_end0
      exact ⟨⟨_, rfl⟩, .inl ⟨ss, by rw [hss]; exact hd.map _, hJs⟩⟩
    · intro x v w2 hin hlt hrg2 hle hg2 hs2 hen
      have hJ2 : J ss w2 := hJ ss wr w2 (some W.heap.size) hJs hg2 (fun r e => by cases e; exact ⟨Nat.le_refl _, hrg.iter⟩)
      have hlen : ss.length < ps.length := by rw [← List.length_map (f := vTm), hss, List.length_map]; exact hlt
      obtain ⟨k, s, g⟩ := x
      have hxa := (Ext.refl w2).alloc (.cells #[.int .i64 k, .string s, .string g] 25)
      have hrgA := hrg2.ext hxa
      have hleA : (w2.alloc (.cells #[.int .i64 k, .string s, .string g] 25)).rangeLeft b W.heap.size < wr.rangeLeft b W.heap.size := by
        rw [rangeLeft_same (hxa.block b hrg2.at.lt) (hxa.block _ hrg2.lt)]; exact hle
      obtain ⟨fn, tmps, assign, body, hy, hR⟩ := hY ss ⟨k, s, g⟩ _ (hJ ss w2 _ none hJ2 (World.grownBy_alloc w2 (.cells #[.int .i64 k, .string s, .string g] 25) none) (fun r e => by cases e)) hlen
      dsimp only [vTm] at hy hen ⊢
      clear hs2 hxa
      gi_wp2
      refine hR.mono ?_
      rintro e W3 (⟨rfl, hJ3, hk3⟩ | ⟨rfl, hJx3⟩)
      · gi_wp2
        have hrg3 := hrgA.walks hk3
        go_roundw
        case rel => exact ⟨_, _, by simp [hss, vTm], hrg3, hJ3⟩
        case measure => rw [hrgA.left_walks hk3]; exact hleA
      · gi_wp2
        refine bodyPost_ret (results_none rfl _ _ _) rfl ?_
        exact ⟨⟨_, rfl⟩, .inr ⟨_, trivial, hJx3⟩⟩

/-- maps.Keys -/
theorem keys_tm (F : Fence) (n : Nat) (hF : F.fn 20) (hro : F.round = none) (mb : Option Nat) (w : World) :
    CallsIn F n Tryd.prog 20 #[.map mb] w fun e w' => e = .returned (.func (.func 36) #[] #[.pointer (some ⟨w.heap.size, 0, none⟩)]) ∧ w' = w.alloc (.cells #[.map mb] 54) := by
  refine callsIn_of_wp Tryd.func20 rfl hF ?_ hro
  simp only [Tryd.ntmps20, List.size_toArray, List.length_cons, List.length_nil, Nat.reduceAdd, Nat.reduceSub, Array.replicate_succ, Array.replicate_zero, List.push_toArray, List.append_toArray, List.nil_append, List.cons_append]
  gi_wp2
  go_ret
  exact ⟨rfl, rfl⟩

theorem keys_stops (F : Fence) (n : Nat) (hF : F.fn 36) (hro : F.round = none) (hn : 1 ≤ n) (Bm b : Nat) (ps : List (Value × Value)) (hps : ∀ x ∈ ps, ∃ t, x.1 = vTm t) (w : World) (hBm : Bm < w.heap.size)
    (hm : w.cell? ⟨Bm, 0, none⟩ = some (.map (some b))) (hown : MapAt Tryd.prog 25 w b ps) :
    SeqStopsK F n Tryd.prog 36 #[.pointer (some ⟨Bm, 0, none⟩)] (fun t : Tm => #[vTm t]) KeepsWalks (fun ss => (ss.map vTm).Perm (ps.map (·.1))) (fun _ => True) ps.length w :=
  fun l J Jx W hW hJ _ hY h0 => keys1_tm F n hF hro hn l Bm b ps hps J Jx hY W hJ ((hW.cell (p := ⟨Bm, 0, none⟩) hBm).trans hm) (hown.ext hW) h0
end Go.Proofs.YtmobdmljbbckiaaDoor
