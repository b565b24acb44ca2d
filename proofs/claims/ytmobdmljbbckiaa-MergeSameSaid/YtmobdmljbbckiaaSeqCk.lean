/- slices.Collect over maps.Keys at a map of pairs: each key once, in some order. -/
import Derived.Test.YtmobdmljbbckiaaKeyCk
import Derived.Test.YtmobdmljbbckiaaSeqMap
import Derived.Shelf.AbstractIn
import Derived.RangeFuncNested
import Derived.RangeFuncBound
import Derived.RangeFuncBox
import Derived.RangeFuncLeaves
import Derived.Maps.AppendAt
import Derived.Sort.MapsRangeIn
import Derived.OwnWalkIn
import Derived.TacticsInMore
import Derived.LoopNIn
import Derived.LoopIn
namespace Go.Proofs.Ytmobdmljbbckiaa
open Go.RowKit Go.Shelf Go.Maps
set_option maxHeartbeats 2000000
set_option maxRecDepth 100000
attribute [local go_sem] Oper.semAt_some

/-- maps.Keys's iterator -/
theorem keys1_ck (F : Fence) (n : Nat) (hF : F.fn 103) (hro : F.round = none) (hn : 1 ≤ n) (l Bm b : Nat) (ps : List (Value × Value)) (hps : ∀ x ∈ ps, ∃ t, x.1 = vCk t) (J Jx : List Ck → World → Prop)
    (hY : ∀ pre x W, J pre W → pre.length < ps.length → YieldAt F (n - 1) Try.prog l #[vCk x] W fun e W' =>
      (e = .returned (.bool true) ∧ J (pre ++ [x]) W' ∧ KeepsWalks W W') ∨ (e = .returned (.bool false) ∧ Jx (pre ++ [x]) W'))
    (W : World) (hJ : AbidesFrom W.heap.size J) (hm : W.cell? ⟨Bm, 0, none⟩ = some (.map (some b))) (hown : MapAt Try.prog 54 W b ps) (h0 : J [] W) :
    CallsIn F n Try.prog 103 #[.func (.yield l) #[] #[], .pointer (some ⟨Bm, 0, none⟩)] W fun e W' => (∃ v, e = .returned v) ∧
      ((∃ ss : List Ck, (ss.map vCk).Perm (ps.map (·.1)) ∧ J ss W') ∨ (∃ pre : List Ck, True ∧ Jx pre W')) := by
  refine callsIn_of_wp Try.func103 rfl hF ?_ hro
  simp only [Try.ntmps103, List.size_toArray, List.length_cons, List.length_nil, Nat.reduceAdd, Nat.reduceSub, Array.replicate_succ, Array.replicate_zero, List.push_toArray, List.append_toArray, List.nil_append, List.cons_append]
  gi_wp2_with (first
    | (gi_at_range; refine wpListIn_range_map _ rfl _ 153 rfl 54 4 Try.underlying153 b ps rfl hown ?_; intro w0 hrg0 hx0 hg0 hs0)
    | gi_in)
  go_frame
  gi_loopw [3] (fun _ wr => ∃ (ss : List Ck) (done : List (Value × Value)), ss.map vCk = done.map (·.1) ∧ MapRange Try.prog 54 wr b W.heap.size ps done ∧ J ss wr)
    (fun _ wr => wr.rangeLeft b W.heap.size)
  case atStart => exact ⟨[], [], rfl, hrg0, hJ [] W w0 none h0 hg0 (fun r e => by cases e)⟩
  case round =>
    obtain ⟨ss, done, hss, hrg, hJs⟩ := hrel
    gi_wp2_with (first
      | (gi_at_next; refine wpListIn_next_map _ rfl _ rfl 54 vCk b W.heap.size ps done hps rfl hrg ?_ ?_)
      | gi_in)
    · intro hd
      gi_wp2
      go_end0
      exact ⟨⟨_, rfl⟩, .inl ⟨ss, by rw [hss]; exact hd.map _, hJs⟩⟩
    · intro x v w2 hin hlt hrg2 hle hg2 hs2 hen
      have hJ2 : J ss w2 := hJ ss wr w2 (some W.heap.size) hJs hg2 (fun r e => by cases e; exact ⟨Nat.le_refl _, hrg.iter⟩)
      have hlen : ss.length < ps.length := by rw [← List.length_map (f := vCk), hss, List.length_map]; exact hlt
      obtain ⟨⟨k1, s1, g1⟩, ⟨k2, s2, g2⟩⟩ := x
      have hxa := (Ext.refl w2).alloc (.cells #[.int .i64 k1, .string s1, .string g1, .int .i64 k2, .string s2, .string g2] 54)
      have hrgA := hrg2.ext hxa
      have hleA : (w2.alloc (.cells #[.int .i64 k1, .string s1, .string g1, .int .i64 k2, .string s2, .string g2] 54)).rangeLeft b W.heap.size < wr.rangeLeft b W.heap.size := by
        rw [rangeLeft_same (hxa.block b hrg2.at.lt) (hxa.block _ hrg2.lt)]; exact hle
      obtain ⟨fn, tmps, assign, body, hy, hR⟩ := hY ss ⟨⟨k1, s1, g1⟩, ⟨k2, s2, g2⟩⟩ _ (hJ ss w2 _ none hJ2 (World.grownBy_alloc w2 (.cells #[.int .i64 k1, .string s1, .string g1, .int .i64 k2, .string s2, .string g2] 54) none) (fun r e => by cases e)) hlen
      dsimp only [vCk] at hy hen ⊢
      clear hs2 hxa
      gi_wp2
      refine hR.mono ?_
      rintro e W3 (⟨rfl, hJ3, hk3⟩ | ⟨rfl, hJx3⟩)
      · gi_wp2
        have hrg3 := hrgA.walks hk3
        go_roundw
        case rel => exact ⟨_, _, by simp [hss, vCk], hrg3, hJ3⟩
        case measure => rw [hrgA.left_walks hk3]; exact hleA
      · gi_wp2
        refine bodyPost_ret (results_none rfl _ _ _) rfl ?_
        exact ⟨⟨_, rfl⟩, .inr ⟨_, trivial, hJx3⟩⟩

/-- maps.Keys -/
theorem keys_ck (F : Fence) (n : Nat) (hF : F.fn 85) (hro : F.round = none) (mb : Option Nat) (w : World) :
    CallsIn F n Try.prog 85 #[.map mb] w fun e w' => e = .returned (.func (.func 103) #[] #[.pointer (some ⟨w.heap.size, 0, none⟩)]) ∧ w' = w.alloc (.cells #[.map mb] 153) := by
  refine callsIn_of_wp Try.func85 rfl hF ?_ hro
  simp only [Try.ntmps85, List.size_toArray, List.length_cons, List.length_nil, Nat.reduceAdd, Nat.reduceSub, Array.replicate_succ, Array.replicate_zero, List.push_toArray, List.append_toArray, List.nil_append, List.cons_append]
  gi_wp2
  go_ret
  exact ⟨rfl, rfl⟩

theorem keysCk_stops (F : Fence) (n : Nat) (hF : F.fn 103) (hro : F.round = none) (hn : 1 ≤ n) (Bm b : Nat) (ps : List (Value × Value)) (hps : ∀ x ∈ ps, ∃ t, x.1 = vCk t) (w : World) (hBm : Bm < w.heap.size)
    (hm : w.cell? ⟨Bm, 0, none⟩ = some (.map (some b))) (hown : MapAt Try.prog 54 w b ps) :
    SeqStopsK F n Try.prog 103 #[.pointer (some ⟨Bm, 0, none⟩)] (fun t   : Ck => #[vCk t]) KeepsWalks (fun ss => (ss.map vCk).Perm (ps.map (·.1))) (fun _ => True) ps.length w :=
  fun l J Jx W hW hJ _ hY h0 => keys1_ck F n hF hro hn l Bm b ps hps J Jx hY W hJ ((hW.cell (p := ⟨Bm, 0, none⟩) hBm).trans hm) (hown.ext hW) h0
end Go.Proofs.Ytmobdmljbbckiaa
