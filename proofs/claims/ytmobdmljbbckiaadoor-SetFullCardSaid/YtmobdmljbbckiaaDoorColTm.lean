/- slices.AppendSeq, slices.Collect, at terms. -/
import Derived.Test.YtmobdmljbbckiaaDoorSeqTm
namespace Go.Proofs.YtmobdmljbbckiaaDoor
open Go.RowKit Go.Shelf Go.Maps
set_option maxHeartbeats 2000000
set_option maxRecDepth 100000
attribute [local go_sem] Oper.semAt_some

theorem infoTm : ∃ i z, Tryd.prog.info? 25 = some i ∧ i.zero = some z ∧ i.size = 3 ∧ i.bytes = 40 ∧ z.cells.size = 3 := ⟨_, _, rfl, rfl, rfl, rfl, rfl⟩
theorem keepsWalks_of {W W' : World} (h : KeepsOthers W W') : KeepsWalks W W' := ⟨h.size, fun k o hk hw => h.same k o hk (Obj.not_cells_of_walk hw)⟩

theorem appendSeq_tm (F : Fence) (n : Nat) (hA : F.fn 48) (hro : F.round = none) (h1 : 1 ≤ n) (gf : Nat) (lb : Array Value) (hFg : F.fn gf) (eg : ∀ args w, (callFunc gf args).run Tryd.prog w = .ok (.enter gf args) w)
    (S Sp : List Tm → Prop) (N : Nat) (hN : N ≤ 100000) (w : World) (hseq : SeqStopsK F (n - 1) Tryd.prog gf lb (fun t : Tm => #[vTm t]) KeepsWalks S Sp N w) :
    CallsIn F n Tryd.prog 48 #[.slice none 0 0, .func (.func gf) #[] lb] w fun e W' => ∃ v, ∃ ss : List Tm, e = .returned v ∧ S ss ∧ W'.ownsRow w.heap.size 25 3 v ss.length (ss.flatMap encTm) ∧ Ext w W' := by
  obtain ⟨i0, z, hi, hz0, hz1, hz2, hz3⟩ := infoTm
  refine callsIn_of_wp_marks Tryd.func48 rfl hA ?_ hro
  simp only [Tryd.ntmps48, List.size_toArray, List.length_cons, List.length_nil, Nat.reduceAdd, Nat.reduceSub, Array.replicate_succ, Array.replicate_zero, List.push_toArray, List.append_toArray, List.nil_append, List.cons_append]
  gi_wp2
  have bO := Boxed.new w 33 (.slice none 0 0)
  have hB0 : Below w.heap.size w (w.alloc (.cells #[.slice none 0 0] 33)) := (Below.refl _ w).alloc (Nat.le_refl _) _
  refine wpIn_rangeFunc_ownH hro h1 (gf := gf) (lb := lb) rfl hFg eg hseq walksK_t walksK_b hB0 (fun _ => rfl)
    (fun (pre : List Tm) W => (∃ v, Boxed W w.heap.size 33 v ∧ W.ownsRow w.heap.size 25 3 v pre.length (pre.flatMap encTm) ∧ True) ∧ Below w.heap.size w W)
    (fun _ _ _ => False)
    (OwnFrom.and (Own.from (holdsRow_own w.heap.size w.heap.size 33 25 3 (fun pre : List Tm => pre.length) (fun pre : List Tm => pre.flatMap encTm) (fun _ _ => True)) _) (ownFrom_below (Nat.le_refl _) (by simp)))
    (fun _ _ _ _ _ hs _ _ => hs)
    ⟨⟨_, bO, World.ownsRow_nil _ _ _ _, trivial⟩, hB0⟩
    (fun t a' W => ∃ Bx, W.heap[Bx]? = some (.cells #[.int .i64 t.kind, .string t.s, .string t.lang] 25 (0, 0)) ∧ a' = { tmps := #[.slice none 0 0, .func (.func gf) #[] lb, .pointer (some ⟨w.heap.size, 0, none⟩), undef, .slice none 0 0, .pointer (some ⟨Bx, 0, none⟩), .func (.func gf) #[] lb, .agg #[.int .i64 t.kind, .string t.s, .string t.lang], undef, undef, undef, undef, undef], defers := [] })
    (by
      rintro x a' s X Y row ⟨Bx, hb, e⟩ hg hr
      refine ⟨Bx, (hg.block Bx (Array.getElem?_eq_some_iff.1 hb).1 (fun e' => ?_)).trans hb, e⟩
      obtain ⟨_, o, ho, hc⟩ := hr Bx e'.symm
      rw [hb] at ho; cases ho; cases hc)
    ?assign ?body ?done ?stop
  case assign =>
    rintro l pre ⟨k, s, g⟩ W K ⟨⟨v, hv, hrow, _⟩, hB⟩ hK
    dsimp only [vTm]
    gi_wp2
    exact hK _ _ ((KeepsOthers.alloc _ _).from _) (KeepsWalks.alloc _ _) ⟨⟨v, hv.alloc _, hrow.alloc _, trivial⟩, hB.alloc hB.size _⟩ ⟨W.heap.size, World.alloc_heap_new W _, rfl⟩
  case body =>
    rintro l pre ⟨k, s, g⟩ a' W hl ⟨r, hr⟩ ⟨⟨v, hv, hrow, _⟩, hB⟩ ⟨Bx, hbx, rfl⟩ hlt
    have hc := hv.cell
    have d0 : W.cell? ⟨Bx, 0, none⟩ = some (.int .i64 k) := by simp [World.cell?, hbx]
    have d1 : W.cell? ⟨Bx, 1, none⟩ = some (.string s) := by simp [World.cell?, hbx]
    have d2 : W.cell? ⟨Bx, 2, none⟩ = some (.string g) := by simp [World.cell?, hbx]
    gi_wp2_with (gi_at_builtin; refine wpListIn_append_own _ rfl _ _ 33 rfl w.heap.size 25 i0 z 3 40 Tryd.underlying33 hi hz0 hz1 hz2 hz3 (by decide) _ _ _ rfl (hrow.alloc _) ⟨W.heap.size, 0, none⟩ 1 1 [.int .i64 k, .string s, .string g] rfl rfl (fun j u hj => cells_new W #[.int .i64 k, .string s, .string g] 25 W.heap.size rfl j u hj) (fun u hu => by simp at hu; rcases hu with rfl | rfl | rfl <;> rfl) (by unfold maxLen; omega) (by omega) (by have := hB.size; simp; omega) ?_; intro v' w1 hown' hgrow _; obtain ⟨g', cap', rfl⟩ := ownsRow_succ hown'; obtain ⟨hv1, hv2, hr2, hk2, hb2⟩ := hv.appended (by decide) hrow hB.size (Nat.le_refl _) hown' hgrow; have hc1 := hv1.cell; have hf1 := hv1.frozen)
    have hr3 : (w1.setCell ⟨w.heap.size, 0, none⟩ (.slice (some ⟨g', 0, none⟩) (pre.length + 1) cap')).ownsRow w.heap.size 25 3 (.slice (some ⟨g', 0, none⟩) (pre.length + 1) cap') (pre ++ [(⟨k, s, g⟩ : Tm)]).length ((pre ++ [(⟨k, s, g⟩ : Tm)]).flatMap encTm) := by
      rw [List.length_append, List.flatMap_append]
      exact hr2
    exact ⟨hk2.from _, keepsWalks_of hk2, ⟨_, hv2, hr3⟩, hB.trans hb2⟩
  case done =>
    rintro D ys W hD hS ⟨⟨v, hv, hrow, _⟩, hB⟩ hK
    have hc := hv.cell
    gi_wp2
    refine ⟨by simp, .inl ⟨_, _, rfl, run_takeDeferred hK, ?_⟩⟩
    exact ⟨_, results_tmp rfl _ _ _, v, ys, rfl, hS, ownsRow_putObj hrow _ hK rfl, hB.trans (belowK_b (w := w) (Nat.le_refl _) W D _ _ (by simp at hD; omega) hK rfl rfl)⟩
  case stop =>
    rintro D c pre W _ _ h _
    exact h.elim

theorem collect_tm (F : Fence) (n : Nat) (hC : F.fn 34) (hA : F.fn 48) (hro : F.round = none) (h1 : 2 ≤ n) (gf : Nat) (lb : Array Value) (hFg : F.fn gf) (eg : ∀ args w, (callFunc gf args).run Tryd.prog w = .ok (.enter gf args) w)
    (S Sp : List Tm → Prop) (N : Nat) (hN : N ≤ 100000) (w : World) (hseq : SeqStopsK F (n - 1 - 1) Tryd.prog gf lb (fun t : Tm => #[vTm t]) KeepsWalks S Sp N w) :
    CallsIn F n Tryd.prog 34 #[.func (.func gf) #[] lb] w fun e W' => ∃ v, ∃ ss : List Tm, e = .returned v ∧ S ss ∧ W'.ownsRow w.heap.size 25 3 v ss.length (ss.flatMap encTm) ∧ Ext w W' := by
  have h0 : 1 ≤ n := by omega
  refine callsIn_of_wp Tryd.func34 rfl hC ?_ hro
  simp only [Tryd.ntmps34, List.size_toArray, List.length_cons, List.length_nil, Nat.reduceAdd, Nat.reduceSub, Array.replicate_succ, Array.replicate_zero, List.push_toArray, List.append_toArray, List.nil_append, List.cons_append]
  gi_wp2_with (gi_at_call 48; refine (appendSeq_tm F (n - 1) hA hro (by omega) gf lb hFg eg S Sp N hN _ hseq).mono ?_; rintro e w' ⟨v, ss, rfl, hS, hrow, hb⟩)
  go_ret
  exact ⟨v, ss, rfl, hS, hrow, hb⟩

/-- slices.Collect over maps.Keys -/
theorem collectKeys_any (Bm b : Nat) (ps : List (Value × Value)) (hps : ∀ x ∈ ps, ∃ t, x.1 = vTm t) (hN : ps.length ≤ 100000) (w : World) (hm : w.cell? ⟨Bm, 0, none⟩ = some (.map (some b))) (hown : MapAt Tryd.prog 25 w b ps) :
    Calls Tryd.prog 34 #[.func (.func 36) #[] #[.pointer (some ⟨Bm, 0, none⟩)]] w fun e W' => ∃ v, ∃ ss : List Tm, e = .returned v ∧ (ss.map vTm).Perm (ps.map (·.1)) ∧ W'.ownsRow w.heap.size 25 3 v ss.length (ss.flatMap encTm) ∧ Ext w W' := by
  refine (callsIn_wide (n := 5)).1 ?_
  exact collect_tm Fence.wide 5 trivial trivial rfl (by omega) _ _ trivial (enters_of Tryd.func36 (by kernel_rfl) rfl) _ _ _ hN w
    (keys_stops Fence.wide 3 trivial rfl (by omega) Bm b ps hps w (World.block_lt_of_cell? w _ hm) hm hown)
theorem keys_any (mb : Option Nat) (w : World) :
    Calls Tryd.prog 20 #[.map mb] w fun e w' => e = .returned (.func (.func 36) #[] #[.pointer (some ⟨w.heap.size, 0, none⟩)]) ∧ w' = w.alloc (.cells #[.map mb] 54) :=
  (callsIn_wide (n := 5)).1 (keys_tm Fence.wide 5 trivial rfl mb w)
end Go.Proofs.YtmobdmljbbckiaaDoor
