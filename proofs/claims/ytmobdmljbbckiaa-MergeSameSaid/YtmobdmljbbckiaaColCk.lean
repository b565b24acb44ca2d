/- slices.AppendSeq, slices.Collect, at terms. -/
import Derived.Test.YtmobdmljbbckiaaSeqCk
namespace Go.Proofs.Ytmobdmljbbckiaa
open Go.RowKit Go.Shelf Go.Maps
set_option maxHeartbeats 2000000
set_option maxRecDepth 100000
attribute [local go_sem] Oper.semAt_some

theorem infoCk : ∃ i z, Try.prog.info? 54 = some i ∧ i.zero = some z ∧ i.size = 6 ∧ i.bytes = 80 ∧ z.cells.size = 6 := ⟨_, _, rfl, rfl, rfl, rfl, rfl⟩

theorem appendSeq_ck (F : Fence) (n : Nat) (hA : F.fn 124) (hro : F.round = none) (h1 : 1 ≤ n) (gf : Nat) (lb : Array Value) (hFg : F.fn gf) (eg : ∀ args w, (callFunc gf args).run Try.prog w = .ok (.enter gf args) w)
    (S Sp : List Ck → Prop) (N : Nat) (hN : N ≤ 100000) (w : World) (hseq : SeqStopsK F (n - 1) Try.prog gf lb (fun t   : Ck => #[vCk t]) KeepsWalks S Sp N w) :
    CallsIn F n Try.prog 124 #[.slice none 0 0, .func (.func gf) #[] lb] w fun e W' => ∃ v, ∃ ss : List Ck, e = .returned v ∧ S ss ∧ W'.ownsRow w.heap.size 54 6 v ss.length (ss.flatMap encCk) ∧ Ext w W' := by
  obtain ⟨i0, z, hi, hz0, hz1, hz2, hz3⟩ := infoCk
  refine callsIn_of_wp_marks Try.func124 rfl hA ?_ hro
  simp only [Try.ntmps124, List.size_toArray, List.length_cons, List.length_nil, Nat.reduceAdd, Nat.reduceSub, Array.replicate_succ, Array.replicate_zero, List.push_toArray, List.append_toArray, List.nil_append, List.cons_append]
  gi_wp2
  have bO := Boxed.new w 50 (.slice none 0 0)
  have hB0 : Below w.heap.size w (w.alloc (.cells #[.slice none 0 0] 50)) := (Below.refl _ w).alloc (Nat.le_refl _) _
  refine wpIn_rangeFunc_ownH hro h1 (gf := gf) (lb := lb) rfl hFg eg hseq walksK_t walksK_b hB0 (fun _ => rfl)
    (fun (pre : List Ck) W => (∃ v, Boxed W w.heap.size 50 v ∧ W.ownsRow w.heap.size 54 6 v pre.length (pre.flatMap encCk) ∧ True) ∧ Below w.heap.size w W)
    (fun _ _ _ => False)
    (OwnFrom.and (Own.from (holdsRow_own w.heap.size w.heap.size 50 54 6 (fun pre : List Ck => pre.length) (fun pre : List Ck => pre.flatMap encCk) (fun _ _ => True)) _) (ownFrom_below (Nat.le_refl _) (by simp)))
    (fun _ _ _ _ _ hs _ _ => hs)
    ⟨⟨_, bO, World.ownsRow_nil _ _ _ _, trivial⟩, hB0⟩
    (fun t a' W => ∃ Bx, W.heap[Bx]? = some (.cells #[.int .i64 t.s.kind, .string t.s.s, .string t.s.lang, .int .i64 t.p.kind, .string t.p.s, .string t.p.lang] 54 (0, 0)) ∧ a' = { tmps := #[.slice none 0 0, .func (.func gf) #[] lb, .pointer (some ⟨w.heap.size, 0, none⟩), undef, .slice none 0 0, .pointer (some ⟨Bx, 0, none⟩), .func (.func gf) #[] lb, .agg #[.int .i64 t.s.kind, .string t.s.s, .string t.s.lang, .int .i64 t.p.kind, .string t.p.s, .string t.p.lang], undef, undef, undef, undef, undef], defers := [] })
    (by
      rintro x a' s X Y row ⟨Bx, hb, e⟩ hg hr
      refine ⟨Bx, (hg.block Bx (Array.getElem?_eq_some_iff.1 hb).1 (fun e' => ?_)).trans hb, e⟩
      obtain ⟨_, o, ho, hc⟩ := hr Bx e'.symm
      rw [hb] at ho; cases ho; cases hc)
    ?assign ?body ?done ?stop
  case assign =>
    rintro l pre ⟨⟨k1, s1, g1⟩, ⟨k2, s2, g2⟩⟩ W K ⟨⟨v, hv, hrow, _⟩, hB⟩ hK
    dsimp only [vCk]
    gi_wp2
    exact hK _ _ ((KeepsOthers.alloc _ _).from _) (KeepsWalks.alloc _ _) ⟨⟨v, hv.alloc _, hrow.alloc _, trivial⟩, hB.alloc hB.size _⟩ ⟨W.heap.size, World.alloc_heap_new W _, rfl⟩
  case body =>
    rintro l pre ⟨⟨k1, s1, g1⟩, ⟨k2, s2, g2⟩⟩ a' W hl ⟨r, hr⟩ ⟨⟨v, hv, hrow, _⟩, hB⟩ ⟨Bx, hbx, rfl⟩ hlt
    have hc := hv.cell
    have d0 : W.cell? ⟨Bx, 0, none⟩ = some (.int .i64 k1) := by simp [World.cell?, hbx]
    have d1 : W.cell? ⟨Bx, 1, none⟩ = some (.string s1) := by simp [World.cell?, hbx]
    have d2 : W.cell? ⟨Bx, 2, none⟩ = some (.string g1) := by simp [World.cell?, hbx]
    have d3 : W.cell? ⟨Bx, 3, none⟩ = some (.int .i64 k2) := by simp [World.cell?, hbx]
    have d4 : W.cell? ⟨Bx, 4, none⟩ = some (.string s2) := by simp [World.cell?, hbx]
    have d5 : W.cell? ⟨Bx, 5, none⟩ = some (.string g2) := by simp [World.cell?, hbx]
    gi_wp2_with (gi_at_builtin; refine wpListIn_append_own _ rfl _ _ 50 rfl w.heap.size 54 i0 z 6 80 Try.underlying50 hi hz0 hz1 hz2 hz3 (by decide) _ _ _ rfl (hrow.alloc _) ⟨W.heap.size, 0, none⟩ 1 1 [.int .i64 k1, .string s1, .string g1, .int .i64 k2, .string s2, .string g2] rfl rfl (fun j u hj => cells_new W #[.int .i64 k1, .string s1, .string g1, .int .i64 k2, .string s2, .string g2] 54 W.heap.size rfl j u hj) (fun u hu => by simp at hu; rcases hu with rfl | rfl | rfl | rfl | rfl | rfl <;> rfl) (by unfold maxLen; omega) (by omega) (by have := hB.size; simp; omega) ?_; intro v' w1 hown' hgrow _; obtain ⟨g', cap', rfl⟩ := ownsRow_succ hown'; obtain ⟨hv1, hv2, hr2, hk2, hb2⟩ := hv.appended (by decide) hrow hB.size (Nat.le_refl _) hown' hgrow; have hc1 := hv1.cell; have hf1 := hv1.frozen)
    have hr3 : (w1.setCell ⟨w.heap.size, 0, none⟩ (.slice (some ⟨g', 0, none⟩) (pre.length + 1) cap')).ownsRow w.heap.size 54 6 (.slice (some ⟨g', 0, none⟩) (pre.length + 1) cap') (pre ++ [(⟨⟨k1, s1, g1⟩, ⟨k2, s2, g2⟩⟩   : Ck)]).length ((pre ++ [(⟨⟨k1, s1, g1⟩, ⟨k2, s2, g2⟩⟩   : Ck)]).flatMap encCk) := by
      rw [List.length_append, List.flatMap_append]
      exact hr2
    exact ⟨hk2.from _, keepsWalks_of hk2, ⟨_, hv2, hr3⟩, hB.trans hb2⟩
  case done =>
    rintro D ys W hD hS ⟨⟨v, hv, hrow, _⟩, hB⟩ hK
    have hc := hv.cell
    gi_wp2
    refine ⟨by simp, .inl ⟨_, _, rfl, run_takeDeferred hK, ?_⟩⟩
    exact ⟨_, results_tmp rfl _ _ _, v, ys, rfl, hS, ownsRow_putObj hrow _ hK rfl, hB.trans (belowK_b (w := w) (Nat.le_refl _) W D _ _ (by simp at hD; omega) hK rfl rfl)⟩
  case stop =>
    rintro D c pre W _ _ h _
    exact h.elim

theorem collect_ck (F : Fence) (n : Nat) (hC : F.fn 101) (hA : F.fn 124) (hro : F.round = none) (h1 : 2 ≤ n) (gf : Nat) (lb : Array Value) (hFg : F.fn gf) (eg : ∀ args w, (callFunc gf args).run Try.prog w = .ok (.enter gf args) w)
    (S Sp : List Ck → Prop) (N : Nat) (hN : N ≤ 100000) (w : World) (hseq : SeqStopsK F (n - 1 - 1) Try.prog gf lb (fun t   : Ck => #[vCk t]) KeepsWalks S Sp N w) :
    CallsIn F n Try.prog 101 #[.func (.func gf) #[] lb] w fun e W' => ∃ v, ∃ ss : List Ck, e = .returned v ∧ S ss ∧ W'.ownsRow w.heap.size 54 6 v ss.length (ss.flatMap encCk) ∧ Ext w W' := by
  have h0 : 1 ≤ n := by omega
  refine callsIn_of_wp Try.func101 rfl hC ?_ hro
  simp only [Try.ntmps101, List.size_toArray, List.length_cons, List.length_nil, Nat.reduceAdd, Nat.reduceSub, Array.replicate_succ, Array.replicate_zero, List.push_toArray, List.append_toArray, List.nil_append, List.cons_append]
  gi_wp2_with (gi_at_call 124; refine (appendSeq_ck F (n - 1) hA hro (by omega) gf lb hFg eg S Sp N hN _ hseq).mono ?_; rintro e w' ⟨v, ss, rfl, hS, hrow, hb⟩)
  go_ret
  exact ⟨v, ss, rfl, hS, hrow, hb⟩

/-- slices.Collect over maps.Keys -/
theorem collectKeysCk_any (Bm b : Nat) (ps : List (Value × Value)) (hps : ∀ x ∈ ps, ∃ t, x.1 = vCk t) (hN : ps.length ≤ 100000) (w : World) (hm : w.cell? ⟨Bm, 0, none⟩ = some (.map (some b))) (hown : MapAt Try.prog 54 w b ps) :
    Calls Try.prog 101 #[.func (.func 103) #[] #[.pointer (some ⟨Bm, 0, none⟩)]] w fun e W' => ∃ v, ∃ ss : List Ck, e = .returned v ∧ (ss.map vCk).Perm (ps.map (·.1)) ∧ W'.ownsRow w.heap.size 54 6 v ss.length (ss.flatMap encCk) ∧ Ext w W' := by
  refine (callsIn_wide (n := 5)).1 ?_
  exact collect_ck Fence.wide 5 trivial trivial rfl (by omega) _ _ trivial (enters_of Try.func103 (by kernel_rfl) rfl) _ _ _ hN w
    (keysCk_stops Fence.wide 3 trivial rfl (by omega) Bm b ps hps w (World.block_lt_of_cell? w _ hm) hm hown)
theorem keysCk_any (mb : Option Nat) (w : World) :
    Calls Try.prog 85 #[.map mb] w fun e w' => e = .returned (.func (.func 103) #[] #[.pointer (some ⟨w.heap.size, 0, none⟩)]) ∧ w' = w.alloc (.cells #[.map mb] 153) :=
  (callsIn_wide (n := 5)).1 (keys_ck Fence.wide 5 trivial rfl mb w)
end Go.Proofs.Ytmobdmljbbckiaa
