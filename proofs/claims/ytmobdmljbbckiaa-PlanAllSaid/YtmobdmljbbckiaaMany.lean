/- The laws' maker of many triples. -/
import Derived.Test.YtmobdmljbbckiaaOwnSet
import Derived.Test.YtmobdmljbbckiaaRegion
import Derived.Test.YtmobdmljbbckiaaFuncsTr
import Derived.Test.YtmobdmljbbckiaaTexts
import Derived.Test.YtmobdmljbbckiaaAppend
namespace Go.Proofs.Ytmobdmljbbckiaa
open Go.RowKit
set_option maxHeartbeats 3200000
set_option maxRecDepth 100000

def manyL (n : Nat) : List Tr := (List.range n).map fun i => ⟨⟨1, ⟨#[115]⟩, noText⟩, ⟨1, ⟨#[112]⟩, noText⟩, textTm i⟩
theorem manyL_succ (n : Nat) : manyL (n + 1) = manyL n ++ [⟨⟨1, ⟨#[115]⟩, noText⟩, ⟨1, ⟨#[112]⟩, noText⟩, textTm n⟩] := by simp [manyL, List.range_succ]
theorem manyL_len (n : Nat) : (manyL n).length = n := by simp [manyL]

theorem many_any (n : Nat) (hn : n ≤ 600) (w : World) :
    Calls Try.prog 9 #[.int .i64 n] w fun e w' => ∃ v', e = .returned v' ∧ OwnSet w.heap.size w' v' (manyL n) ∧ Ext w w' := by
  obtain ⟨i0, z, hi, hz0, hz1, hz2, hz3⟩ := infoTr
  have hnm := name_any
  go_enter Try.func9, Try.ntmps9
  go_wp2
  go_loopw [3, 4] (fun v iv wr => ∃ k : Nat, k ≤ n ∧ iv = .int .i64 k ∧ OwnSet w.heap.size wr v (manyL k) ∧ Ext w wr) (fun _ iv _ => n - (intOf iv).toNat)
  case atStart => exact ⟨0, Nat.zero_le _, rfl, OwnSet.nil _ _, Ext.refl _⟩
  case round =>
    obtain ⟨k, hk, rfl, hown, hxr⟩ := hrel
    by_cases hlt : k < n
    · have ht := fun W => text_any k (by omega) W
      have hs := manyL_succ k
      have hl := manyL_len k
      generalize textTm k = t at ht hs
      generalize manyL k = L at hown hs hl
      have HS := Lib.hid (And.intro hs hl)
      clear hs
      obtain ⟨q1, q2, q3⟩ := t
      have HO := Lib.hid hown
      clear hown
      go_upto_region 6 with (go_at_call 21; refine (ht _).mono ?_; rintro e w1 ⟨rfl, hx1⟩)
      have hxa := (hxr.trans hx1).alloc (.cells #[.int .i64 q1, .string q2, .string q3] 28)
      have hh := alloc_heap_new w1 (.cells #[.int .i64 q1, .string q2, .string q3] 28)
      have hown0 := HO.out.ext (hx1.alloc (.cells #[.int .i64 q1, .string q2, .string q3] 28))
      generalize hwb : World.alloc w1 _ = wb at hxa hh hown0 ⊢
      clear hwb HO hx1 hxr ht
      have hbw : w.heap.size ≤ wb.heap.size := hxa.size
      have A := Grows.cells (B := w.heap.size) (T := 82) hh (by decide)
      unfold OwnSet at hown0
      rw [hl] at hown0
      clear hl
      refine wp_region_class (Grows w.heap.size 82 wb) [0, 1, 2, 3, 4] [5, 6, 7] (by kernel_rfl) (by kernel_rfl) (fun _ _ h k => h.ext k hbw) (Grows.refl wb) ?_
      simp only [List.filterMap_cons, List.filterMap_nil, List.getElem?_cons_succ, List.getElem?_cons_zero]
      repeat (first | ((with_reducible refine wpFr_yes ?hw ?_); (case hw => rfl); intro K hK; go_simp; (first | (refine hK _ ?_; clear hK K) | (apply Exists.intro; refine ⟨fun x => ?_, hK _ ?_⟩; ((go_at_call 7; exact hnm _ _)); clear hK K))) | ((with_reducible refine wpFr_not ?hw ?_); (case hw => rfl); intro K hK; go_simp; (refine hK _ ?_; clear hK K)))
      refine wpFr_nil ?_
      refine wpTl_step (fun W K hW hK => ?_)
      go_simp
      refine ⟨(Grows.refl wb).ext (hW.alloc _) hbw, hK _ _ ?_⟩
      clear hK K
      have hG0 : Grows w.heap.size 82 wb (W.alloc (.cells #[.int .i64 1, .string ⟨#[115]⟩, .string noText, .int .i64 1, .string ⟨#[112]⟩, .string noText, .int .i64 q1, .string q2, .string q3] 82)) := (Grows.refl wb).ext (hW.alloc _) hbw
      have hown1 := own_ext hown0 (hW.alloc (.cells #[.int .i64 1, .string ⟨#[115]⟩, .string noText, .int .i64 1, .string ⟨#[112]⟩, .string noText, .int .i64 q1, .string q2, .string q3] 82))
      refine wpTl_append_own rfl rfl Try.underlying22 hi hz0 hz1 hz2 hz3 (by decide) rfl hown1 (news := [.int .i64 1, .string ⟨#[115]⟩, .string noText, .int .i64 1, .string ⟨#[112]⟩, .string noText, .int .i64 q1, .string q2, .string q3]) rfl rfl (fun j u hj => cells_new W #[.int .i64 1, .string ⟨#[115]⟩, .string noText, .int .i64 1, .string ⟨#[112]⟩, .string noText, .int .i64 q1, .string q2, .string q3] 82 W.heap.size rfl j u hj) (fun u hu => by simp at hu; rcases hu with rfl | rfl | rfl | rfl | rfl | rfl | rfl | rfl | rfl <;> rfl) (by unfold maxLen; omega) (by omega) (Nat.le_trans hbw hG0.below.size) ?_
      intro W1 v1 w2 hW1 hv1 hg1
      have hG1 : Grows w.heap.size 82 wb w2 := (hG0.ext hW1 hbw).trans (Grows.own (own_ext hown1 hW1) hg1 (Nat.le_trans hbw (Nat.le_trans hG0.below.size hW1.size)))
      refine ⟨hG1, ?_⟩
      clear hg1 hG0 hown1
      refine wpTl_step (fun W3 K hW3 hK => ?_)
      go_simp
      refine ⟨hG1.ext hW3 hbw, hK _ _ ?_⟩
      clear hK K
      refine wpTl_nil fun x hxx => ?_
      have ho1 := own_ext hv1 (hW3.trans hxx)
      have hG := hG1.ext (hW3.trans hxx) hbw
      clear hv1 hG1 hW1 hW3 hxx hW A hh hown0
      have HF := Lib.hid (And.intro ho1 (Below.trans hxa hG.below))
      clear ho1 hG hxa
      go_wp2
      go_roundw
      case rel =>
        refine ⟨k + 1, hlt, vi (by omega), ?_, HF.out.2⟩
        have := HF.out.1
        unfold OwnSet
        rw [HS.out.1, List.flatMap_append, List.length_append, HS.out.2]
        exact this
      case measure => simp [intOf]; omega
    · have hkl : k = n := by omega
      subst hkl
      go_wp2
      go_ret
      exact ⟨_, rfl, hown, hxr⟩
end Go.Proofs.Ytmobdmljbbckiaa
