/- many, and the equality of sets and layers. -/
import Derived.Test.YtommohepbpdmdaaLayerMore
import Derived.Test.YtommohepbpdmdaaTexts
import Derived.Test.YtommohepbpdmdaaAppend
import Derived.Test.YtommohepbpdmdaaTrNeq
namespace Go.Proofs.Ytommohepbpdmdaa
open Go.RowKit
set_option maxHeartbeats 3200000
set_option maxRecDepth 100000

def manyL (n : Nat) : List Tr := (List.range n).map fun i => ⟨⟨1, ⟨#[115]⟩, noText⟩, ⟨1, ⟨#[112]⟩, noText⟩, textTm i⟩
theorem manyL_succ (n : Nat) : manyL (n + 1) = manyL n ++ [⟨⟨1, ⟨#[115]⟩, noText⟩, ⟨1, ⟨#[112]⟩, noText⟩, textTm n⟩] := by simp [manyL, List.range_succ]
theorem manyL_len (n : Nat) : (manyL n).length = n := by simp [manyL]

theorem many_any (n : Nat) (hn : n ≤ 600) (w : World) :
    Calls Try.prog 18 #[.int .i64 n] w fun e w' => ∃ v', e = .returned v' ∧ OwnSet w.heap.size w' v' (manyL n) ∧ Ext w w' := by
  obtain ⟨i0, z, hi, hz0, hz1, hz2, hz3⟩ := infoTr
  have hnm := name_any
  go_enter Try.func18, Try.ntmps18
  go_wp2
  go_loopw [3, 4] (fun v iv wr => ∃ k : Nat, k ≤ n ∧ iv = .int .i64 k ∧ OwnSet w.heap.size wr v (manyL k) ∧ Ext w wr) (fun _ iv _ => n - (intOf iv).toNat)
  case atStart => exact ⟨0, Nat.zero_le _, rfl, OwnSet.nil _ _, Ext.refl _⟩
  case round =>
    obtain ⟨k, hk, rfl, hown, hxr⟩ := hrel
    by_cases hlt : k < n
    · have ht := fun W => text_any k (by omega) W
      have hs := manyL_succ k
      have hl := manyL_len k
      generalize textTm k = t at ht hs
      generalize manyL k = L at hown hs hl
      have HS := Lib.hid (And.intro hs hl)
      clear hs
      obtain ⟨q1, q2, q3⟩ := t
      have HO := Lib.hid hown
      clear hown
      go_upto_region 6 with (go_at_call 33; refine (ht _).mono ?_; rintro e w1 ⟨rfl, hx1⟩)
      have hxa := (hxr.trans hx1).alloc (.cells #[.int .i64 q1, .string q2, .string q3] 37)
      have hh := alloc_heap_new w1 (.cells #[.int .i64 q1, .string q2, .string q3] 37)
      have hown0 := HO.out.ext (hx1.alloc (.cells #[.int .i64 q1, .string q2, .string q3] 37))
      generalize hwb : World.alloc w1 _ = wb at hxa hh hown0 ⊢
      clear hwb HO hx1 hxr ht
      have hbw : w.heap.size ≤ wb.heap.size := hxa.size
      have A := Grows.cells (B := w.heap.size) (T := 39) hh (by decide)
      unfold OwnSet at hown0
      rw [hl] at hown0
      clear hl
      refine wp_region_class (Grows w.heap.size 39 wb) [0, 1, 2, 3, 4] [5, 6, 7] (by kernel_rfl) (by kernel_rfl) (fun _ _ h k => h.ext k hbw) (Grows.refl wb) ?_
      simp only [List.filterMap_cons, List.filterMap_nil, List.getElem?_cons_succ, List.getElem?_cons_zero]
      repeat (first | ((with_reducible refine wpFr_yes ?hw ?_); (case hw => rfl); intro K hK; go_simp; (first | (refine hK _ ?_; clear hK K) | (apply Exists.intro; refine ⟨fun x => ?_, hK _ ?_⟩; ((go_at_call 15; exact hnm _ _)); clear hK K))) | ((with_reducible refine wpFr_not ?hw ?_); (case hw => rfl); intro K hK; go_simp; (refine hK _ ?_; clear hK K)))
      refine wpFr_nil ?_
      refine wpTl_step (fun W K hW hK => ?_)
      go_simp
      refine ⟨(Grows.refl wb).ext (hW.alloc _) hbw, hK _ _ ?_⟩
      clear hK K
      have hG0 : Grows w.heap.size 39 wb (W.alloc (.cells #[.int .i64 1, .string ⟨#[115]⟩, .string noText, .int .i64 1, .string ⟨#[112]⟩, .string noText, .int .i64 q1, .string q2, .string q3] 39)) := (Grows.refl wb).ext (hW.alloc _) hbw
      have hown1 := own_ext hown0 (hW.alloc (.cells #[.int .i64 1, .string ⟨#[115]⟩, .string noText, .int .i64 1, .string ⟨#[112]⟩, .string noText, .int .i64 q1, .string q2, .string q3] 39))
      refine wpTl_append_own rfl rfl Try.underlying32 hi hz0 hz1 hz2 hz3 (by decide) rfl hown1 (news := [.int .i64 1, .string ⟨#[115]⟩, .string noText, .int .i64 1, .string ⟨#[112]⟩, .string noText, .int .i64 q1, .string q2, .string q3]) rfl rfl (fun j u hj => cells_new W #[.int .i64 1, .string ⟨#[115]⟩, .string noText, .int .i64 1, .string ⟨#[112]⟩, .string noText, .int .i64 q1, .string q2, .string q3] 39 W.heap.size rfl j u hj) (fun u hu => by simp at hu; rcases hu with rfl | rfl | rfl | rfl | rfl | rfl | rfl | rfl | rfl <;> rfl) (by unfold maxLen; omega) (by omega) (Nat.le_trans hbw hG0.below.size) ?_
      intro W1 v1 w2 hW1 hv1 hg1
      have hG1 : Grows w.heap.size 39 wb w2 := (hG0.ext hW1 hbw).trans (Grows.own (own_ext hown1 hW1) hg1 (Nat.le_trans hbw (Nat.le_trans hG0.below.size hW1.size)))
      refine ⟨hG1, ?_⟩
      clear hg1 hG0 hown1
      refine wpTl_step (fun W3 K hW3 hK => ?_)
      go_simp
      refine ⟨hG1.ext hW3 hbw, hK _ _ ?_⟩
      clear hK K
      refine wpTl_nil fun x hxx => ?_
      have ho1 := own_ext hv1 (hW3.trans hxx)
      have hG := hG1.ext (hW3.trans hxx) hbw
      clear hv1 hG1 hW1 hW3 hxx hW A hh hown0
      have HF := Lib.hid (And.intro ho1 (Below.trans hxa hG.below))
      clear ho1 hG hxa
      go_wp2
      go_roundw
      case rel =>
        refine ⟨k + 1, hlt, vi (by omega), ?_, HF.out.2⟩
        have := HF.out.1
        unfold OwnSet
        rw [HS.out.1, List.flatMap_append, List.length_append, HS.out.2]
        exact this
      case measure => simp [intOf]; omega
    · have hkl : k = n := by omega
      subst hkl
      go_wp2
      go_ret
      exact ⟨_, rfl, hown, hxr⟩

theorem triples_any (va vb : Value) (a b : List Tr) (w : World) (ha : Reads encTr w va a) (hb : Reads encTr w vb b) :
    Calls Try.prog 26 #[va, vb] w fun e w' => e = .returned (.bool (decide (a = b))) ∧ Ext w w' := by
  obtain ⟨aa, ca, rfl, hca, hma, hcla⟩ := ha
  obtain ⟨ab, cb, rfl, hcb, hmb, hclb⟩ := hb
  unfold maxLen at hma hmb
  by_cases hl : a.length = b.length
  · rw [← hl]
    have HL := Lib.hid hl
    clear hl
    go_enter Try.func26, Try.ntmps26
    go_wp2
    go_loopw [5] (fun jv wr => ∃ j : Nat, jv = .int .i64 j ∧ j ≤ a.length ∧ Hid (∀ i, i < j → a[i]? = b[i]?) ∧ Ext w wr) (fun jv _ => a.length - (intOf jv).toNat)
    case atStart => exact ⟨0, rfl, Nat.zero_le _, Lib.hid (fun i hi => absurd hi (Nat.not_lt_zero _)), Ext.refl _⟩
    case round =>
      obtain ⟨j, rfl, hj, hpre, hxr⟩ := hrel
      by_cases hlt : j < a.length
      · have hltb : j < b.length := by have := HL.out; omega
        obtain ⟨ba, oa, rfl, hc⟩ := hcla (fun h => by simp [h] at hlt)
        obtain ⟨bb, ob, rfl, hd⟩ := hclb (fun h => by simp [h] at hltb)
        obtain ⟨c0, c1, c2, c3, c4, c5, c6, c7, c8⟩ := Tr.cells hc hlt
        obtain ⟨d0, d1, d2, d3, d4, d5, d6, d7, d8⟩ := Tr.cells hd hltb
        have C0 := Later.cell (hxr.cell c0)
        have C1 := Later.cell (hxr.cell c1)
        have C2 := Later.cell (hxr.cell c2)
        have C3 := Later.cell (hxr.cell c3)
        have C4 := Later.cell (hxr.cell c4)
        have C5 := Later.cell (hxr.cell c5)
        have C6 := Later.cell (hxr.cell c6)
        have C7 := Later.cell (hxr.cell c7)
        have C8 := Later.cell (hxr.cell c8)
        have D0 := Later.cell (hxr.cell d0)
        have D1 := Later.cell (hxr.cell d1)
        have D2 := Later.cell (hxr.cell d2)
        have D3 := Later.cell (hxr.cell d3)
        have D4 := Later.cell (hxr.cell d4)
        have D5 := Later.cell (hxr.cell d5)
        have D6 := Later.cell (hxr.cell d6)
        have D7 := Later.cell (hxr.cell d7)
        have D8 := Later.cell (hxr.cell d8)
        have hga : a[j]? = some a[j] := List.getElem?_eq_getElem hlt
        have hgb : b[j]? = some b[j] := List.getElem?_eq_getElem hltb
        clear c0 c1 c2 c3 c4 c5 c6 c7 c8 d0 d1 d2 d3 d4 d5 d6 d7 d8 hc hd hcla hclb hcb hmb
        generalize a[j] = s at C0 C1 C2 C3 C4 C5 C6 C7 C8 hga
        generalize b[j] = t at D0 D1 D2 D3 D4 D5 D6 D7 D8 hgb
        obtain ⟨⟨k1, s1, g1⟩, ⟨k2, s2, g2⟩, ⟨k3, s3, g3⟩⟩ := s
        obtain ⟨⟨q1, r1, u1⟩, ⟨q2, r2, u2⟩, ⟨q3, r3, u3⟩⟩ := t
        dsimp only at *
        have HG := Lib.hid (And.intro hga hgb)
        clear hga hgb
        cases hq : trEq ⟨⟨k1, s1, g1⟩, ⟨k2, s2, g2⟩, ⟨k3, s3, g3⟩⟩ ⟨⟨q1, r1, u1⟩, ⟨q2, r2, u2⟩, ⟨q3, r3, u3⟩⟩ with
        | true =>
          go_upto_region 6 with fail
          refine wp_region_ext [0, 1, 2, 3, 4, 5, 6, 7, 8] [] (by kernel_rfl) (by kernel_rfl) ?_
          simp only [List.filterMap_cons, List.filterMap_nil, List.getElem?_cons_succ, List.getElem?_cons_zero]
          repeat (first | ((with_reducible refine wpFr_yes ?hw ?_); (case hw => rfl); intro K hK; go_simp; (first | (refine hK _ ?_; clear hK K) | (apply Exists.intro; refine ⟨fun x => ?_, hK _ ?_⟩; (fail); clear hK K))) | ((with_reducible refine wpFr_not ?hw ?_); (case hw => rfl); intro K hK; go_simp; (refine hK _ ?_; clear hK K)))
          refine wpFr_nil ?_
          refine wpTl_nil fun x hxx => ?_
          clear C0 C1 C2 C3 C4 C5 C6 C7 C8 D0 D1 D2 D3 D4 D5 D6 D7 D8
          have HQ := Lib.hid hq
          clear hq
          go_wp2
          go_roundw
          case rel =>
            refine ⟨j + 1, vi (by omega), hlt, Lib.hid (fun i hi => ?_), hxr.trans hxx⟩
            by_cases e : i = j
            · subst e
              rw [HG.out.1, HG.out.2]
              have := HQ.out
              simp only [trEq, decide_eq_true_eq] at this
              rw [this]
            · exact hpre.out i (by omega)
          case measure => simp [intOf]; omega
        | false =>
          go_upto_region 6 with fail
          refine wp_region_ext [0, 1, 2, 3, 4, 5, 6, 7, 8] [] (by kernel_rfl) (by kernel_rfl) ?_
          simp only [List.filterMap_cons, List.filterMap_nil, List.getElem?_cons_succ, List.getElem?_cons_zero]
          repeat (first | ((with_reducible refine wpFr_yes ?hw ?_); (case hw => rfl); intro K hK; go_simp; (first | (refine hK _ ?_; clear hK K) | (apply Exists.intro; refine ⟨fun x => ?_, hK _ ?_⟩; (fail); clear hK K))) | ((with_reducible refine wpFr_not ?hw ?_); (case hw => rfl); intro K hK; go_simp; (refine hK _ ?_; clear hK K)))
          refine wpFr_nil ?_
          refine wpTl_nil fun x hxx => ?_
          clear C0 C1 C2 C3 C4 C5 C6 C7 C8 D0 D1 D2 D3 D4 D5 D6 D7 D8
          have HQ := Lib.hid hq
          clear hq
          go_wp2
          go_ret
          refine ⟨?_, hxr.trans hxx⟩
          have hne : ¬ a = b := fun h => by
            have h1 := HG.out.1
            rw [h, HG.out.2] at h1
            have := HQ.out
            simp only [trEq, decide_eq_false_iff_not] at this
            exact this (Option.some.inj h1).symm
          simp [hne]
      · have hjl : j = a.length := by omega
        subst hjl
        clear hcla hclb
        go_wp2
        go_ret
        refine ⟨?_, hxr⟩
        have he : a = b := by
          apply List.ext_getElem?
          intro i
          by_cases hi : i < a.length
          · exact hpre.out i hi
          · rw [List.getElem?_eq_none (by omega), List.getElem?_eq_none (by have := HL.out; omega)]
        simp [he]
  · have hne : ¬ a = b := fun h => hl (by rw [h])
    have h1 : ((a.length : Int) == (b.length : Int)) = false := beq_eq_false_iff_ne.2 (by omega)
    have h2 : ((a.length : Int) != (b.length : Int)) = true := by simp [bne, h1]
    have h3 : ¬ ((a.length : Int) = (b.length : Int)) := by omega
    have HN := Lib.hid hne
    clear hne hcla hclb
    go_enter Try.func26, Try.ntmps26
    go_wp2
    go_ret
    exact ⟨by simp [HN.out], Ext.refl _⟩

theorem sameLayer_any (xa xt ya yt : Value) (x y : Ly) (w : World) (h1 : Reads encTr w xa x.add) (h2 : Reads encTr w xt x.take) (h3 : Reads encTr w ya y.add) (h4 : Reads encTr w yt y.take) :
    Calls Try.prog 31 #[.agg #[xa, xt], .agg #[ya, yt]] w fun e w' => e = .returned (.bool (decide (x.add = y.add) && decide (x.take = y.take))) ∧ Ext w w' := by
  have hs1 := fun W (hW : Ext w W) => triples_any xa ya x.add y.add W (h1.ext hW) (h3.ext hW)
  have hs2 := fun W (hW : Ext w W) => triples_any xt yt x.take y.take W (h2.ext hW) (h4.ext hW)
  obtain ⟨axa, cxa, rfl⟩ := h1.slice
  obtain ⟨axt, cxt, rfl⟩ := h2.slice
  obtain ⟨aya, cya, rfl⟩ := h3.slice
  obtain ⟨ayt, cyt, rfl⟩ := h4.slice
  generalize decide (x.add = y.add) = p at hs1 ⊢
  generalize decide (x.take = y.take) = q at hs2 ⊢
  have HH := Lib.hid (And.intro hs1 hs2)
  clear hs1 hs2 h1 h2 h3 h4
  have hx := ((Ext.refl w).alloc (.cells #[.slice axa x.add.length cxa, .slice axt x.take.length cxt] 75)).alloc (.cells #[.slice aya y.add.length cya, .slice ayt y.take.length cyt] 75)
  have k0 := heap_ext ((Ext.refl _).alloc (.cells #[.slice aya y.add.length cya, .slice ayt y.take.length cyt] 75)) (alloc_heap_new w (.cells #[.slice axa x.add.length cxa, .slice axt x.take.length cxt] 75))
  have k1 := alloc_heap_new (w.alloc (.cells #[.slice axa x.add.length cxa, .slice axt x.take.length cxt] 75)) (.cells #[.slice aya y.add.length cya, .slice ayt y.take.length cyt] 75)
  simp only [World.size_alloc] at k1
  cases p <;> cases q <;>
  · go_enter Try.func31, Try.ntmps31
    go_upto_region 1 with fail
    generalize hwb : World.alloc (World.alloc w _) _ = wb at hx k0 k1 ⊢
    clear hwb
    have A0 := cells_at k0
    have A1 := cells_at k1
    go_upto_region 2 with (go_at_call 26; refine (HH.out.1 _ hx).mono ?_; rintro e w1 ⟨rfl, hx1⟩)
    clear A0 A1
    have A0 := cells_at (heap_ext hx1 k0)
    have A1 := cells_at (heap_ext hx1 k1)
    go_wp2_with (go_at_call 26; refine (HH.out.2 _ (hx.trans hx1)).mono ?_; rintro e w2 ⟨rfl, hx2⟩)
    go_ret
    exact ⟨rfl, (hx.trans hx1).trans hx2⟩
end Go.Proofs.Ytommohepbpdmdaa
