/- The chain's graphs. -/
import Derived.Test.YtmobdmljbbckiaaDoorChainOwn
namespace Go.Proofs.YtmobdmljbbckiaaDoor
open Go.RowKit
set_option maxHeartbeats 3200000
set_option maxRecDepth 100000

/-- layers laid on a set, one behind the other -/
def graphL (base : List Tr) (ys : List Ly) : List Tr := ys.foldl applyL base
theorem graphL_snoc (base : List Tr) (ys : List Ly) (y : Ly) : graphL base (ys ++ [y]) = applyL (graphL base ys) y := by simp [graphL]
theorem applyL_len (g : List Tr) (y : Ly) : (applyL g y).length ≤ g.length + y.add.length := by
  unfold applyL unionL
  refine Nat.le_trans (compact_length_le _) ?_
  unfold sortL
  rw [List.length_mergeSort, List.length_append]
  have := partL_length_le g y.take false
  omega
theorem graphL_len : ∀ (ys : List Ly) (base : List Tr), (∀ y ∈ ys, y.add.length ≤ 200) → (graphL base ys).length ≤ base.length + 200 * ys.length
  | [], base, _ => by simp [graphL]
  | y :: ys, base, h => by
    have h1 := applyL_len base y
    have h2 := graphL_len ys (applyL base y) (fun z hz => h z (by simp [hz]))
    have h3 := h y (by simp)
    have e : graphL base (y :: ys) = graphL (applyL base y) ys := rfl
    rw [e]
    simp only [List.length_cons]
    omega

theorem chainGraph_any {w : World} {cb B : Nat} {vb v : Value} {base : List Tr} {ps : List PV} {ys : List Ly} (h : ChainAt w cb B vb v base ps ys) (n : Nat) (hn : n ≤ ps.length)
    (hb : base.length ≤ 200) (hy : ∀ y ∈ ys, lyErr y = none) (hm : ys.length ≤ 100) :
    Calls Tryd.prog 25 #[.pointer (some ⟨cb, 0, none⟩), .int .i64 n] w fun e w' => ∃ p c, e = .returned (.slice p (graphL base (ys.take n)).length c) ∧
      OwnSet w.heap.size w' (.slice p (graphL base (ys.take n)).length c) (graphL base (ys.take n)) ∧ Ext w w' := by
  obtain ⟨hcell, hbase, hown, hlen, heach⟩ := h
  obtain ⟨pb, cbc, rfl, obase⟩ := hbase
  obtain ⟨av, cv, rfl⟩ := sliceOf_own hown
  have hcl := fun W (hW : Ext w W) => clone_own _ base W (obase.reads.ext hW) (Nat.le_trans hb (by decide))
  obtain ⟨_, cap', hval, hcap, hmax, hcells⟩ : Reads encPV w (.slice av ps.length cv) ps := Reads.of_owns hown
  cases hval
  unfold maxLen at hmax
  have HE := Lib.hid (And.intro heach (And.intro hy (And.intro hlen (And.intro hcells hb))))
  have HC := Lib.hid hcl
  clear hcl heach hy hcells obase hown hb
  have A := cells_at hcell
  go_enter Tryd.func25, Tryd.ntmps25
  go_upto_region 2 with (go_at_call 23; refine (HC.out _ (Ext.refl w)).mono ?_; rintro e w1 ⟨p1, c1, rfl, ho1, hx1⟩)
  clear A
  have A := cells_at (heap_ext hx1 hcell)
  have hg0 : SetVal w.heap.size w1 (.slice p1 base.length c1) (graphL base (ys.take 0)) := ⟨p1, c1, by simp [graphL], by simpa [graphL] using ho1⟩
  have HG := Lib.hid hg0
  clear hg0 ho1
  have hle : (n : Int) ≤ (cv : Int) := by omega
  have hle2 : (n : Int) ≤ (ps.length : Int) := by omega
  go_wp2
  go_loopw [5, 20] (fun gv iv wr => ∃ i : Nat, iv = .int .i64 i ∧ i ≤ n ∧ SetVal w.heap.size wr gv (graphL base (ys.take i)) ∧ Ext w wr) (fun _ iv _ => n - (intOf iv).toNat)
  case atStart => exact ⟨0, rfl, Nat.zero_le _, HG.out, hx1⟩
  case round =>
    obtain ⟨i, rfl, hi, ⟨pg, cg, rfl, og⟩, hxr⟩ := hrel
    clear HG A hx1
    by_cases hlt : i < n
    · have hil : i < ps.length := Nat.lt_of_lt_of_le hlt hn
      have hiy : i < ys.length := by have := HE.out.2.2.1; omega
      obtain ⟨b, off, rfl, hc⟩ := HE.out.2.2.2.1 (fun h => by rw [h] at hil; exact absurd hil (Nat.not_lt_zero _))
      have c0 : w.cell? ⟨b, off + i * 2, none⟩ = some ps[i].1 := hc _ _ ((flat_get encPV_len ps i 0 hil (by omega)).trans rfl)
      have c1 : w.cell? ⟨b, off + i * 2 + 1, none⟩ = some ps[i].2 := by rw [Nat.add_assoc]; exact hc _ _ ((flat_get encPV_len ps i 1 hil (by omega)).trans rfl)
      obtain ⟨e1, e2⟩ := HE.out.1 i hil hiy
      have hly := HE.out.2.1 ys[i] (List.getElem_mem hiy)
      have hst : graphL base (ys.take (i + 1)) = applyL (graphL base (ys.take i)) ys[i] := by rw [List.take_succ_eq_append_getElem hiy, graphL_snoc]
      have hgl : (graphL base (ys.take i)).length ≤ 30000 := by
        have := graphL_len (ys.take i) base (fun y hy => (lyErr_none (HE.out.2.1 y (List.mem_of_mem_take hy))).1.1)
        have h2 := HE.out.2.2.2.2
        simp only [List.length_take] at this
        omega
      have HS := Lib.hid hst
      clear hst hc
      generalize ys[i] = y at e1 e2 hly HS
      generalize graphL base (ys.take i) = g at og hgl HS
      obtain ⟨sa, st⟩ := lyErr_none hly
      obtain ⟨pa, ca, ea, oa⟩ := e1.out
      obtain ⟨pt, ct, et, ot⟩ := e2.out
      rw [ea] at c0
      rw [et] at c1
      have d0 := hxr.cell c0
      have d1 := hxr.cell c1
      have l2 : y.add.length ≤ 50000 := Nat.le_trans sa.1 (by decide)
      have f1 : applyL g y = unionL cmpTr (partL g y.take false) y.add := rfl
      have hp3 := fun W (hW : Ext wr W) => part_own _ _ g y.take false W (og.reads.ext hW) (ot.reads.ext (hxr.trans hW)) st.2.2 (by omega) (Nat.le_trans st.1 (by decide))
      have l1 : (partL g y.take false).length ≤ 50000 := Nat.le_trans (partL_length_le _ _ _) (by omega)
      rw [f1] at HS
      generalize partL g y.take false = P at hp3 l1 HS
      have hu := fun W v (hW : Ext wr W) (hv : Reads encTr W v P) => union_own v _ P y.add W hv (oa.reads.ext (hxr.trans hW)) (by omega)
      generalize unionL cmpTr P y.add = U at hu HS
      have HH := Lib.hid (And.intro hp3 hu)
      clear hp3 hu ea et e1 e2 c0 c1 f1 sa st hly l1 l2 hgl oa ot og
      go_upto_region 5 with fail
      have hx0 := (Ext.refl wr).alloc (.cells #[.slice pa y.add.length ca, .slice pt y.take.length ct] 43)
      have hb0 := alloc_heap_new wr (.cells #[.slice pa y.add.length ca, .slice pt y.take.length ct] 43)
      generalize hwb : World.alloc wr _ = wb at hx0 hb0 ⊢
      clear hwb d0 d1
      have A := Later.cells hb0
      have HX := Lib.hid (And.intro hx0 hxr)
      clear hx0 hb0 hxr
      refine wp_region_treez (Ext wb) [0, 1, 2, 4, 5] ([3, 6].length + 1) 7 (by kernel_rfl) (by kernel_rfl) (fun _ _ h k => h.trans k) (Ext.refl wb) ?_
      simp only [List.filterMap_cons, List.filterMap_nil, List.getElem?_cons_succ, List.getElem?_cons_zero]
      repeat (first | ((with_reducible refine wpFr_yes ?hw ?_); (case hw => rfl); intro K hK; go_simp; (first | (refine hK _ ?_; clear hK K) | (apply Exists.intro; refine ⟨fun x => ?_, hK _ ?_⟩; (fail); clear hK K))) | ((with_reducible refine wpFr_not ?hw ?_); (case hw => rfl); intro K hK; go_simp; (refine hK _ ?_; clear hK K)))
      refine wpFr_nil ?_
      refine wpE_steps [3, 6] (fun i => match i with | 3 => [] | 6 => [3] | _ => []) ?R rfl (by kernel_rfl) (fun _ _ h k => h.trans k) (Ext.refl wb) ?hR ?hstep ?hend
      case R => exact applyR w.heap.size P U
      case hR => exact applyR_ext w.heap.size P U
      case hstep =>
        simp only [stepsOk, List.getElem?_toArray, List.getElem?_cons_succ, List.getElem?_cons_zero]
        refine ⟨?s3, ?s6, trivial⟩
        case s3 =>
          intro f W hW hd
          have hwW := HX.out.1.trans hW
          simp only [putAll, dstOf, List.getElem?_toArray, List.getElem?_cons_succ, List.getElem?_cons_zero, Option.bind_some]
          refine opI_yes rfl ?_
          go_simp
          refine (HH.out.1 W hwW).mono ?_
          rintro e w' ⟨p, c, rfl, ho, hx⟩
          exact ⟨_, rfl, hx, ⟨p, c, rfl, ho.mono (Nat.le_trans HX.out.2.size hwW.size)⟩⟩
        case s6 =>
          intro f W hW hd
          have hwW := HX.out.1.trans hW
          have h3 : SetVal w.heap.size W (f 3) P := hd 3 (by simp)
          obtain ⟨p3, c3, e3, o3⟩ := h3.out
          simp only [putAll, dstOf, List.getElem?_toArray, List.getElem?_cons_succ, List.getElem?_cons_zero, Option.bind_some]
          rw [e3]
          refine opI_yes rfl ?_
          go_simp
          refine (HH.out.2 W _ hwW o3.reads).mono ?_
          rintro e w' ⟨p, c, rfl, ho, hx⟩
          exact ⟨_, rfl, hx, ⟨p, c, rfl, ho.mono (Nat.le_trans HX.out.2.size hwW.size)⟩⟩
      case hend =>
        intro f W K hW hr hK
        have h6 : SetVal w.heap.size W (f 6) U := hr 6 (by simp)
        obtain ⟨p6, c6, e6, o6⟩ := h6.out
        clear hr
        simp only [putAll, dstOf, List.getElem?_toArray, List.getElem?_cons_succ, List.getElem?_cons_zero, Option.bind_some]
        rw [e6]
        generalize f 3 = g3
        generalize f 6 = g6
        clear e6 h6
        refine lastI_yes rfl ?_
        go_simp
        refine hK _ _ (fun z hz => ?_)
        clear hK K
        have HZ := Lib.hid (And.intro (o6.ext hz) ((HX.out.2.trans (HX.out.1.trans hW)).trans hz))
        clear o6 hW hz A
        go_wp2
        go_roundw
        case rel => exact ⟨i + 1, vi (by omega), hlt, ⟨p6, c6, by rw [HS.out], by rw [HS.out]; exact HZ.out.1⟩, HZ.out.2⟩
        case measure => simp [intOf]; omega
    · have hin : i = n := by omega
      subst hin
      go_wp2
      go_ret
      exact ⟨_, _, rfl, og, hxr⟩
end Go.Proofs.YtmobdmljbbckiaaDoor
