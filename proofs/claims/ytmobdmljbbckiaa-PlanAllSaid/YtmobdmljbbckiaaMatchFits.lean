/- What match.Fits does to the world. -/
import Derived.Test.YtmobdmljbbckiaaMatchWalks
namespace Go.Proofs.Ytmobdmljbbckiaa
open Go.RowKit
set_option maxHeartbeats 3200000
set_option maxRecDepth 100000

theorem fits_any (t : Tr) (p : Pat) (w : World) : Calls Try.prog 68 #[vTr t, vPat p] w fun e w' => e = .returned (.bool (fits t p)) ∧ Ext w w' := by
  have hslots := fun W => slots_any p W
  have hterms := fun W => terms_any t W
  obtain ⟨⟨v1, ⟨k1, s1, g1⟩⟩, ⟨v2, ⟨k2, s2, g2⟩⟩, ⟨v3, ⟨k3, s3, g3⟩⟩⟩ := p
  obtain ⟨⟨q1, r1, u1⟩, ⟨q2, r2, u2⟩, ⟨q3, r3, u3⟩⟩ := t
  obtain ⟨T0, hT0⟩ : ∃ T0 : Tr, T0 = ⟨⟨q1, r1, u1⟩, ⟨q2, r2, u2⟩, ⟨q3, r3, u3⟩⟩ := ⟨_, rfl⟩
  obtain ⟨P0, hP0⟩ : ∃ P0 : Pat, P0 = ⟨⟨v1, ⟨k1, s1, g1⟩⟩, ⟨v2, ⟨k2, s2, g2⟩⟩, ⟨v3, ⟨k3, s3, g3⟩⟩⟩ := ⟨_, rfl⟩
  have hm : slotMiss T0 P0 0 = (decide (v1.size = 0) && !tmEq ⟨k1, s1, g1⟩ ⟨q1, r1, u1⟩) ∧ slotMiss T0 P0 1 = (decide (v2.size = 0) && !tmEq ⟨k2, s2, g2⟩ ⟨q2, r2, u2⟩) ∧ slotMiss T0 P0 2 = (decide (v3.size = 0) && !tmEq ⟨k3, s3, g3⟩ ⟨q3, r3, u3⟩) ∧
      pairMiss T0 P0 1 0 = (decide (v2.size ≠ 0) && decide (v1 = v2) && !tmEq ⟨q1, r1, u1⟩ ⟨q2, r2, u2⟩) ∧ pairMiss T0 P0 2 0 = (decide (v3.size ≠ 0) && decide (v1 = v3) && !tmEq ⟨q1, r1, u1⟩ ⟨q3, r3, u3⟩) ∧ pairMiss T0 P0 2 1 = (decide (v3.size ≠ 0) && decide (v2 = v3) && !tmEq ⟨q2, r2, u2⟩ ⟨q3, r3, u3⟩) := by
    subst hT0 hP0; exact ⟨rfl, rfl, rfl, rfl, rfl, rfl⟩
  rw [show fits ⟨⟨q1, r1, u1⟩, ⟨q2, r2, u2⟩, ⟨q3, r3, u3⟩⟩ ⟨⟨v1, ⟨k1, s1, g1⟩⟩, ⟨v2, ⟨k2, s2, g2⟩⟩, ⟨v3, ⟨k3, s3, g3⟩⟩⟩ = fits T0 P0 by rw [hT0, hP0]]
  clear hT0 hP0
  have HM := Lib.hid hm
  have HS := Lib.hid (And.intro hslots hterms)
  clear hslots hterms hm
  go_enter Try.func68, Try.ntmps68
  go_upto_region 1 with fail
  have h2 := heap_ext ((Ext.refl _).alloc (.cells #[.string v1, .int .i64 k1, .string s1, .string g1, .string v2, .int .i64 k2, .string s2, .string g2, .string v3, .int .i64 k3, .string s3, .string g3] 32)) (alloc_heap_new w (.cells #[.int .i64 q1, .string r1, .string u1, .int .i64 q2, .string r2, .string u2, .int .i64 q3, .string r3, .string u3] 82))
  have h3 := alloc_heap_new (w.alloc (.cells #[.int .i64 q1, .string r1, .string u1, .int .i64 q2, .string r2, .string u2, .int .i64 q3, .string r3, .string u3] 82)) (.cells #[.string v1, .int .i64 k1, .string s1, .string g1, .string v2, .int .i64 k2, .string s2, .string g2, .string v3, .int .i64 k3, .string s3, .string g3] 32)
  have hCw := ((Ext.refl w).alloc (.cells #[.int .i64 q1, .string r1, .string u1, .int .i64 q2, .string r2, .string u2, .int .i64 q3, .string r3, .string u3] 82)).alloc (.cells #[.string v1, .int .i64 k1, .string s1, .string g1, .string v2, .int .i64 k2, .string s2, .string g2, .string v3, .int .i64 k3, .string s3, .string g3] 32)
  generalize hwb : World.alloc (World.alloc w _) _ = wb at h2 h3 hCw ⊢
  clear hwb
  simp only [World.size_alloc] at h3
  go_cut [5, 6] (fun r5 r6 wx => ∃ b5 b6 : Nat, r5 = .pointer (some ⟨b5, 0, none⟩) ∧ r6 = .pointer (some ⟨b6, 0, none⟩) ∧
    wx.heap[b5]? = some (.cells #[.string v1, .int .i64 k1, .string s1, .string g1, .string v2, .int .i64 k2, .string s2, .string g2, .string v3, .int .i64 k3, .string s3, .string g3] 77) ∧
    wx.heap[b6]? = some (.cells #[.int .i64 q1, .string r1, .string u1, .int .i64 q2, .string r2, .string u2, .int .i64 q3, .string r3, .string u3] 169) ∧ Ext wb wx)
  case first =>
    have A2 := Later.cells h2
    have A3 := Later.cells h3
    refine wp_region_tree (Ext wb) [0, 1, 2, 3] 4 (by kernel_rfl) (by kernel_rfl) (fun _ _ h k => h.trans k) (Ext.refl wb) ?_
    simp only [List.filterMap_cons, List.filterMap_nil, List.getElem?_cons_succ, List.getElem?_cons_zero]
    repeat (first | ((with_reducible refine wpFr_yes ?hw ?_); (case hw => rfl); intro K hK; go_simp; (first | (refine hK _ ?_; clear hK K) | (apply Exists.intro; refine ⟨fun x => ?_, hK _ ?_⟩; (first | (go_at_call 30; exact HS.out.1 _) | (go_at_call 95; exact HS.out.2 _)); clear hK K))) | ((with_reducible refine wpFr_not ?hw ?_); (case hw => rfl); intro K hK; go_simp; (refine hK _ ?_; clear hK K)))
    refine wpFr_nil ?_
    refine wpE_two 4 5 (by kernel_rfl) rfl rfl (fun W K hW hK => ?_) (fun W K hW hK => ?_)
    · go_simp
      have hCa : Ext wb (W.alloc (.cells #[.string ⟨#[]⟩, .int .i64 0, .string ⟨#[]⟩, .string ⟨#[]⟩, .string ⟨#[]⟩, .int .i64 0, .string ⟨#[]⟩, .string ⟨#[]⟩, .string ⟨#[]⟩, .int .i64 0, .string ⟨#[]⟩, .string ⟨#[]⟩] 77)) := hW.alloc _
      refine ⟨hCa, hK _ _ ?_⟩
      clear hK K
      have hsW := hW.size
      have hbN := alloc_heap_new W (.cells #[.string ⟨#[]⟩, .int .i64 0, .string ⟨#[]⟩, .string ⟨#[]⟩, .string ⟨#[]⟩, .int .i64 0, .string ⟨#[]⟩, .string ⟨#[]⟩, .string ⟨#[]⟩, .int .i64 0, .string ⟨#[]⟩, .string ⟨#[]⟩] 77)
      refine wpE_one 5 (by kernel_rfl) rfl fun W2 K hW2 hK => ?_
      go_simp
      have hCb : Ext wb (W2.alloc (.cells #[.int .i64 0, .string ⟨#[]⟩, .string ⟨#[]⟩, .int .i64 0, .string ⟨#[]⟩, .string ⟨#[]⟩, .int .i64 0, .string ⟨#[]⟩, .string ⟨#[]⟩] 169)) := (hCa.trans hW2).alloc _
      refine ⟨hCb, hK _ _ ?_⟩
      clear hK K
      have hbB := alloc_heap_new W2 (.cells #[.int .i64 0, .string ⟨#[]⟩, .string ⟨#[]⟩, .int .i64 0, .string ⟨#[]⟩, .string ⟨#[]⟩, .int .i64 0, .string ⟨#[]⟩, .string ⟨#[]⟩] 169)
      have hbA := heap_ext (hW2.alloc (.cells #[.int .i64 0, .string ⟨#[]⟩, .string ⟨#[]⟩, .int .i64 0, .string ⟨#[]⟩, .string ⟨#[]⟩, .int .i64 0, .string ⟨#[]⟩, .string ⟨#[]⟩] 169)) hbN
      have hs2 := hW2.size
      rw [World.size_alloc] at hs2
      generalize W2.alloc (.cells #[.int .i64 0, .string ⟨#[]⟩, .string ⟨#[]⟩, .int .i64 0, .string ⟨#[]⟩, .string ⟨#[]⟩, .int .i64 0, .string ⟨#[]⟩, .string ⟨#[]⟩] 169) = Wb at hCb hbA hbB ⊢
      refine wpE_one 6 (by kernel_rfl) rfl fun W3 K hW3 hK => ?_
      rw [if_pos (show Region.wanted _ _ = true from rfl)]
      have hC3 := hCb.trans hW3
      refine okE_store_row rfl (b := W.heap.size) rfl rfl (c' := #[.string v1, .int .i64 k1, .string s1, .string g1, .string v2, .int .i64 k2, .string s2, .string g2, .string v3, .int .i64 k3, .string s3, .string g3]) (heap_ext hW3 hbA) (by kernel_rfl) rfl (by simp [Value.oneCell']) (below_setRow hC3 (by omega) _) (hK _ _ ?_)
      clear hK K
      have hx5 := setRow_heap W3 (W.heap.size) _ #[.string v1, .int .i64 k1, .string s1, .string g1, .string v2, .int .i64 k2, .string s2, .string g2, .string v3, .int .i64 k3, .string s3, .string g3] _ _ (heap_ext hW3 hbA)
      have hx6 := (setRow_other W3 (W.heap.size) (W2.heap.size) #[.string v1, .int .i64 k1, .string s1, .string g1, .string v2, .int .i64 k2, .string s2, .string g2, .string v3, .int .i64 k3, .string s3, .string g3] (by omega)).trans (heap_ext hW3 hbB)
      have hC4 : Ext wb (W3.setRow (W.heap.size) #[.string v1, .int .i64 k1, .string s1, .string g1, .string v2, .int .i64 k2, .string s2, .string g2, .string v3, .int .i64 k3, .string s3, .string g3]) := below_setRow hC3 (by omega) _
      generalize W3.setRow (W.heap.size) #[.string v1, .int .i64 k1, .string s1, .string g1, .string v2, .int .i64 k2, .string s2, .string g2, .string v3, .int .i64 k3, .string s3, .string g3] = Wc at hx5 hx6 hC4 ⊢
      refine wpE_one 7 (by kernel_rfl) rfl fun W4 K hW4 hK => ?_
      rw [if_pos (show Region.wanted _ _ = true from rfl)]
      have hC5 := hC4.trans hW4
      refine okE_store_row rfl (b := W2.heap.size) rfl rfl (c' := #[.int .i64 q1, .string r1, .string u1, .int .i64 q2, .string r2, .string u2, .int .i64 q3, .string r3, .string u3]) (heap_ext hW4 hx6) (by kernel_rfl) rfl (by simp [Value.oneCell']) (below_setRow hC5 (by omega) _) (hK _ _ ?_)
      clear hK K
      have hy6 := setRow_heap W4 (W2.heap.size) _ #[.int .i64 q1, .string r1, .string u1, .int .i64 q2, .string r2, .string u2, .int .i64 q3, .string r3, .string u3] _ _ (heap_ext hW4 hx6)
      have hy5 := (setRow_other W4 (W2.heap.size) (W.heap.size) #[.int .i64 q1, .string r1, .string u1, .int .i64 q2, .string r2, .string u2, .int .i64 q3, .string r3, .string u3] (by omega)).trans (heap_ext hW4 hx5)
      have hC6 : Ext wb (W4.setRow (W2.heap.size) #[.int .i64 q1, .string r1, .string u1, .int .i64 q2, .string r2, .string u2, .int .i64 q3, .string r3, .string u3]) := below_setRow hC5 (by omega) _
      generalize W4.setRow (W2.heap.size) #[.int .i64 q1, .string r1, .string u1, .int .i64 q2, .string r2, .string u2, .int .i64 q3, .string r3, .string u3] = Wd at hy5 hy6 hC6 ⊢
      refine wpE_none (by kernel_rfl) fun x hxx => ?_
      go_wp2
      go_meet
      case rel => exact ⟨_, _, rfl, rfl, heap_ext hxx hy5, heap_ext hxx hy6, hC6.trans hxx⟩
    · go_simp
      have hCa : Ext wb (W.alloc (.cells #[.int .i64 0, .string ⟨#[]⟩, .string ⟨#[]⟩, .int .i64 0, .string ⟨#[]⟩, .string ⟨#[]⟩, .int .i64 0, .string ⟨#[]⟩, .string ⟨#[]⟩] 169)) := hW.alloc _
      refine ⟨hCa, hK _ _ ?_⟩
      clear hK K
      have hsW := hW.size
      have hbN := alloc_heap_new W (.cells #[.int .i64 0, .string ⟨#[]⟩, .string ⟨#[]⟩, .int .i64 0, .string ⟨#[]⟩, .string ⟨#[]⟩, .int .i64 0, .string ⟨#[]⟩, .string ⟨#[]⟩] 169)
      refine wpE_one 4 (by kernel_rfl) rfl fun W2 K hW2 hK => ?_
      go_simp
      have hCb : Ext wb (W2.alloc (.cells #[.string ⟨#[]⟩, .int .i64 0, .string ⟨#[]⟩, .string ⟨#[]⟩, .string ⟨#[]⟩, .int .i64 0, .string ⟨#[]⟩, .string ⟨#[]⟩, .string ⟨#[]⟩, .int .i64 0, .string ⟨#[]⟩, .string ⟨#[]⟩] 77)) := (hCa.trans hW2).alloc _
      refine ⟨hCb, hK _ _ ?_⟩
      clear hK K
      have hbB := alloc_heap_new W2 (.cells #[.string ⟨#[]⟩, .int .i64 0, .string ⟨#[]⟩, .string ⟨#[]⟩, .string ⟨#[]⟩, .int .i64 0, .string ⟨#[]⟩, .string ⟨#[]⟩, .string ⟨#[]⟩, .int .i64 0, .string ⟨#[]⟩, .string ⟨#[]⟩] 77)
      have hbA := heap_ext (hW2.alloc (.cells #[.string ⟨#[]⟩, .int .i64 0, .string ⟨#[]⟩, .string ⟨#[]⟩, .string ⟨#[]⟩, .int .i64 0, .string ⟨#[]⟩, .string ⟨#[]⟩, .string ⟨#[]⟩, .int .i64 0, .string ⟨#[]⟩, .string ⟨#[]⟩] 77)) hbN
      have hs2 := hW2.size
      rw [World.size_alloc] at hs2
      generalize W2.alloc (.cells #[.string ⟨#[]⟩, .int .i64 0, .string ⟨#[]⟩, .string ⟨#[]⟩, .string ⟨#[]⟩, .int .i64 0, .string ⟨#[]⟩, .string ⟨#[]⟩, .string ⟨#[]⟩, .int .i64 0, .string ⟨#[]⟩, .string ⟨#[]⟩] 77) = Wb at hCb hbA hbB ⊢
      refine wpE_one 6 (by kernel_rfl) rfl fun W3 K hW3 hK => ?_
      rw [if_pos (show Region.wanted _ _ = true from rfl)]
      have hC3 := hCb.trans hW3
      refine okE_store_row rfl (b := W2.heap.size) rfl rfl (c' := #[.string v1, .int .i64 k1, .string s1, .string g1, .string v2, .int .i64 k2, .string s2, .string g2, .string v3, .int .i64 k3, .string s3, .string g3]) (heap_ext hW3 hbB) (by kernel_rfl) rfl (by simp [Value.oneCell']) (below_setRow hC3 (by omega) _) (hK _ _ ?_)
      clear hK K
      have hx5 := setRow_heap W3 (W2.heap.size) _ #[.string v1, .int .i64 k1, .string s1, .string g1, .string v2, .int .i64 k2, .string s2, .string g2, .string v3, .int .i64 k3, .string s3, .string g3] _ _ (heap_ext hW3 hbB)
      have hx6 := (setRow_other W3 (W2.heap.size) (W.heap.size) #[.string v1, .int .i64 k1, .string s1, .string g1, .string v2, .int .i64 k2, .string s2, .string g2, .string v3, .int .i64 k3, .string s3, .string g3] (by omega)).trans (heap_ext hW3 hbA)
      have hC4 : Ext wb (W3.setRow (W2.heap.size) #[.string v1, .int .i64 k1, .string s1, .string g1, .string v2, .int .i64 k2, .string s2, .string g2, .string v3, .int .i64 k3, .string s3, .string g3]) := below_setRow hC3 (by omega) _
      generalize W3.setRow (W2.heap.size) #[.string v1, .int .i64 k1, .string s1, .string g1, .string v2, .int .i64 k2, .string s2, .string g2, .string v3, .int .i64 k3, .string s3, .string g3] = Wc at hx5 hx6 hC4 ⊢
      refine wpE_one 7 (by kernel_rfl) rfl fun W4 K hW4 hK => ?_
      rw [if_pos (show Region.wanted _ _ = true from rfl)]
      have hC5 := hC4.trans hW4
      refine okE_store_row rfl (b := W.heap.size) rfl rfl (c' := #[.int .i64 q1, .string r1, .string u1, .int .i64 q2, .string r2, .string u2, .int .i64 q3, .string r3, .string u3]) (heap_ext hW4 hx6) (by kernel_rfl) rfl (by simp [Value.oneCell']) (below_setRow hC5 (by omega) _) (hK _ _ ?_)
      clear hK K
      have hy6 := setRow_heap W4 (W.heap.size) _ #[.int .i64 q1, .string r1, .string u1, .int .i64 q2, .string r2, .string u2, .int .i64 q3, .string r3, .string u3] _ _ (heap_ext hW4 hx6)
      have hy5 := (setRow_other W4 (W.heap.size) (W2.heap.size) #[.int .i64 q1, .string r1, .string u1, .int .i64 q2, .string r2, .string u2, .int .i64 q3, .string r3, .string u3] (by omega)).trans (heap_ext hW4 hx5)
      have hC6 : Ext wb (W4.setRow (W.heap.size) #[.int .i64 q1, .string r1, .string u1, .int .i64 q2, .string r2, .string u2, .int .i64 q3, .string r3, .string u3]) := below_setRow hC5 (by omega) _
      generalize W4.setRow (W.heap.size) #[.int .i64 q1, .string r1, .string u1, .int .i64 q2, .string r2, .string u2, .int .i64 q3, .string r3, .string u3] = Wd at hy5 hy6 hC6 ⊢
      refine wpE_none (by kernel_rfl) fun x hxx => ?_
      go_wp2
      go_meet
      case rel => exact ⟨_, _, rfl, rfl, heap_ext hxx hy5, heap_ext hxx hy6, hC6.trans hxx⟩
  case rest =>
    obtain ⟨b5, b6, rfl, rfl, hb5, hb6, hx⟩ := hcut
    rename_i wc _
    have hcw := hCw.trans hx
    have A5 := cells_at hb5
    clear h2 h3 hCw hx
    go_wp2
    clear A5
    go_loopw [15] (fun jv wr => ∃ (j : Nat) (ji : Int), jv = .int .i64 ji ∧ ji = (j : Int) ∧ j ≤ 3 ∧ Hid (∀ i, i < j → roundMiss T0 P0 i = false) ∧ Ext wc wr) (fun jv _ => 3 - (intOf jv).toNat)
    case atStart => exact ⟨0, 0, rfl, rfl, by omega, (fun i hi => absurd hi (Nat.not_lt_zero _)), Ext.refl _⟩
    case round =>
      obtain ⟨j, ji, rfl, hji, hj, hb, hxr⟩ := hrel
      obtain ⟨wo, rfl⟩ : ∃ wo : World, wo = wr := ⟨_, rfl⟩
      have hjj : j = 0 ∨ j = 1 ∨ j = 2 ∨ j = 3 := by omega
      rcases hjj with rfl | rfl | rfl | rfl
      · obtain rfl : ji = 0 := by omega
        clear hji hj
        go_upto_region 5 with fail
        have hb8 := alloc_heap_new wo (.cells #[.string v1, .int .i64 k1, .string s1, .string g1] 30)
        have hx8 := hxr.trans ((Ext.refl wo).alloc (.cells #[.string v1, .int .i64 k1, .string s1, .string g1] 30))
        generalize hw8 : World.alloc wo _ = w8 at hb8 hx8 ⊢
        clear hw8 hxr
        have hc5 := heap_ext hx8 hb5
        have hc6 := heap_ext hx8 hb6
        have A8 := Later.cells hb8
        have A5 := Later.cells hc5
        have A6 := Later.cells hc6
        cases hE : v1.toList.isEmpty with
        | true =>
          have h0 : v1.size = 0 := by rw [isEmpty_toList] at hE; simpa using hE
          have HZ := Lib.hid h0
          clear h0
          cases hq : tmEq ⟨k1, s1, g1⟩ ⟨q1, r1, u1⟩ with
          | false =>
            refine wp_region_ext [0, 1, 2, 3, 4, 5, 6, 7, 8, 9, 10] [] (by kernel_rfl) (by kernel_rfl) ?_
            simp only [List.filterMap_cons, List.filterMap_nil, List.getElem?_cons_succ, List.getElem?_cons_zero]
            repeat (first | ((with_reducible refine wpFr_yes ?hw ?_); (case hw => rfl); intro K hK; go_simp; (first | (refine hK _ ?_; clear hK K) | (apply Exists.intro; refine ⟨fun x => ?_, hK _ ?_⟩; (fail); clear hK K))) | ((with_reducible refine wpFr_not ?hw ?_); (case hw => rfl); intro K hK; go_simp; (refine hK _ ?_; clear hK K)))
            refine wpFr_nil ?_
            refine wpTl_nil fun x hxx => ?_
            go_wp2
            go_ret
            exact ⟨by rw [fits_not (j := 0) (by omega) (by unfold roundMiss; simp [HM.out.1, HZ.out, hq])]; rfl, hcw.trans (hx8.trans hxx)⟩
          | true =>
            have hsm : slotMiss T0 P0 0 = false := by rw [HM.out.1, hq]; simp
            have HSM := Lib.hid hsm
            clear hsm
            refine wp_region_ext [0, 1, 2, 3, 4, 5, 6, 7, 8, 9, 10] [] (by kernel_rfl) (by kernel_rfl) ?_
            simp only [List.filterMap_cons, List.filterMap_nil, List.getElem?_cons_succ, List.getElem?_cons_zero]
            repeat (first | ((with_reducible refine wpFr_yes ?hw ?_); (case hw => rfl); intro K hK; go_simp; (first | (refine hK _ ?_; clear hK K) | (apply Exists.intro; refine ⟨fun x => ?_, hK _ ?_⟩; (fail); clear hK K))) | ((with_reducible refine wpFr_not ?hw ?_); (case hw => rfl); intro K hK; go_simp; (refine hK _ ?_; clear hK K)))
            refine wpFr_nil ?_
            refine wpTl_nil fun x hxx => ?_
            clear A5 A6 A8
            go_wp2
            go_loopw [31] (fun kv wk => ∃ (k : Nat) (ki : Int), kv = .int .i64 ki ∧ ki = (k : Int) ∧ k ≤ 0 ∧ Hid (∀ i, i < k → pairMiss T0 P0 0 i = false) ∧ Ext w8 wk) (fun kv _ => 0 - (intOf kv).toNat)
            case atStart => exact ⟨0, 0, rfl, rfl, by omega, (fun i hi => absurd hi (Nat.not_lt_zero _)), hxx⟩
            case round =>
              obtain ⟨kk, ki, rfl, hki, hk3, hpk, hxk⟩ := hrel
              clear hxx
              obtain ⟨wk, rfl⟩ : ∃ wk : World, wk = wr := ⟨_, rfl⟩
              obtain rfl : kk = 0 := by omega
              obtain rfl : ki = 0 := by omega
              clear hki hk3
              go_wp2
              go_roundw
              case rel =>
                refine ⟨0 + 1, _, rfl, rfl, by omega, (fun i hi => ?_), hx8.trans hxk⟩
                by_cases e : i = 0
                · subst e; exact HSM.out
                · exact hb.out i (by omega)
              case measure => simp [intOf]
        | false =>
          have h0 : v1.size ≠ 0 := fun h => by rw [isEmpty_toList] at hE; simp [h] at hE
          have hsm : slotMiss T0 P0 0 = false := by rw [HM.out.1]; simp [h0]
          have HZ := Lib.hid h0
          have HSM := Lib.hid hsm
          clear h0 hsm
          refine wp_region_ext [0, 1, 2, 3, 4, 5, 6, 7, 8, 9, 10] [] (by kernel_rfl) (by kernel_rfl) ?_
          simp only [List.filterMap_cons, List.filterMap_nil, List.getElem?_cons_succ, List.getElem?_cons_zero]
          repeat (first | ((with_reducible refine wpFr_yes ?hw ?_); (case hw => rfl); intro K hK; go_simp; (first | (refine hK _ ?_; clear hK K) | (apply Exists.intro; refine ⟨fun x => ?_, hK _ ?_⟩; (fail); clear hK K))) | ((with_reducible refine wpFr_not ?hw ?_); (case hw => rfl); intro K hK; go_simp; (refine hK _ ?_; clear hK K)))
          refine wpFr_nil ?_
          refine wpTl_nil fun x hxx => ?_
          clear A5 A6 A8
          go_wp2
          go_loopw [31] (fun kv wk => ∃ (k : Nat) (ki : Int), kv = .int .i64 ki ∧ ki = (k : Int) ∧ k ≤ 0 ∧ Hid (∀ i, i < k → pairMiss T0 P0 0 i = false) ∧ Ext w8 wk) (fun kv _ => 0 - (intOf kv).toNat)
          case atStart => exact ⟨0, 0, rfl, rfl, by omega, (fun i hi => absurd hi (Nat.not_lt_zero _)), hxx⟩
          case round =>
            obtain ⟨kk, ki, rfl, hki, hk3, hpk, hxk⟩ := hrel
            clear hxx
            obtain ⟨wk, rfl⟩ : ∃ wk : World, wk = wr := ⟨_, rfl⟩
            obtain rfl : kk = 0 := by omega
            obtain rfl : ki = 0 := by omega
            clear hki hk3
            go_wp2
            go_roundw
            case rel =>
              refine ⟨0 + 1, _, rfl, rfl, by omega, (fun i hi => ?_), hx8.trans hxk⟩
              by_cases e : i = 0
              · subst e; exact HSM.out
              · exact hb.out i (by omega)
            case measure => simp [intOf]
      · obtain rfl : ji = 1 := by omega
        clear hji hj
        go_upto_region 5 with fail
        have hb8 := alloc_heap_new wo (.cells #[.string v2, .int .i64 k2, .string s2, .string g2] 30)
        have hx8 := hxr.trans ((Ext.refl wo).alloc (.cells #[.string v2, .int .i64 k2, .string s2, .string g2] 30))
        generalize hw8 : World.alloc wo _ = w8 at hb8 hx8 ⊢
        clear hw8 hxr
        have hc5 := heap_ext hx8 hb5
        have hc6 := heap_ext hx8 hb6
        have A8 := Later.cells hb8
        have A5 := Later.cells hc5
        have A6 := Later.cells hc6
        cases hE : v2.toList.isEmpty with
        | true =>
          have h0 : v2.size = 0 := by rw [isEmpty_toList] at hE; simpa using hE
          have HZ := Lib.hid h0
          clear h0
          cases hq : tmEq ⟨k2, s2, g2⟩ ⟨q2, r2, u2⟩ with
          | false =>
            refine wp_region_ext [0, 1, 2, 3, 4, 5, 6, 7, 8, 9, 10] [] (by kernel_rfl) (by kernel_rfl) ?_
            simp only [List.filterMap_cons, List.filterMap_nil, List.getElem?_cons_succ, List.getElem?_cons_zero]
            repeat (first | ((with_reducible refine wpFr_yes ?hw ?_); (case hw => rfl); intro K hK; go_simp; (first | (refine hK _ ?_; clear hK K) | (apply Exists.intro; refine ⟨fun x => ?_, hK _ ?_⟩; (fail); clear hK K))) | ((with_reducible refine wpFr_not ?hw ?_); (case hw => rfl); intro K hK; go_simp; (refine hK _ ?_; clear hK K)))
            refine wpFr_nil ?_
            refine wpTl_nil fun x hxx => ?_
            go_wp2
            go_ret
            exact ⟨by rw [fits_not (j := 1) (by omega) (by unfold roundMiss; simp [HM.out.2.1, HZ.out, hq])]; rfl, hcw.trans (hx8.trans hxx)⟩
          | true =>
            have hsm : slotMiss T0 P0 1 = false := by rw [HM.out.2.1, hq]; simp
            have HSM := Lib.hid hsm
            clear hsm
            refine wp_region_ext [0, 1, 2, 3, 4, 5, 6, 7, 8, 9, 10] [] (by kernel_rfl) (by kernel_rfl) ?_
            simp only [List.filterMap_cons, List.filterMap_nil, List.getElem?_cons_succ, List.getElem?_cons_zero]
            repeat (first | ((with_reducible refine wpFr_yes ?hw ?_); (case hw => rfl); intro K hK; go_simp; (first | (refine hK _ ?_; clear hK K) | (apply Exists.intro; refine ⟨fun x => ?_, hK _ ?_⟩; (fail); clear hK K))) | ((with_reducible refine wpFr_not ?hw ?_); (case hw => rfl); intro K hK; go_simp; (refine hK _ ?_; clear hK K)))
            refine wpFr_nil ?_
            refine wpTl_nil fun x hxx => ?_
            clear A5 A6 A8
            go_wp2
            go_loopw [31] (fun kv wk => ∃ (k : Nat) (ki : Int), kv = .int .i64 ki ∧ ki = (k : Int) ∧ k ≤ 1 ∧ Hid (∀ i, i < k → pairMiss T0 P0 1 i = false) ∧ Ext w8 wk) (fun kv _ => 1 - (intOf kv).toNat)
            case atStart => exact ⟨0, 0, rfl, rfl, by omega, (fun i hi => absurd hi (Nat.not_lt_zero _)), hxx⟩
            case round =>
              obtain ⟨kk, ki, rfl, hki, hk3, hpk, hxk⟩ := hrel
              clear hxx
              obtain ⟨wk, rfl⟩ : ∃ wk : World, wk = wr := ⟨_, rfl⟩
              have hkk : kk = 0 ∨ kk = 1 := by omega
              rcases hkk with rfl | rfl
              · obtain rfl : ki = 0 := by omega
                clear hki hk3
                go_upto_region 10 with fail
                have A8 := Later.cells (heap_ext hxk hb8)
                have A5 := Later.cells (heap_ext hxk hc5)
                have A6 := Later.cells (heap_ext hxk hc6)
                refine wp_region_ext [0, 1, 2, 3, 4, 5, 6, 7, 8, 9, 10, 11, 12, 13, 14, 15, 16, 17, 18, 19, 20] [] (by kernel_rfl) (by kernel_rfl) ?_
                simp only [List.filterMap_cons, List.filterMap_nil, List.getElem?_cons_succ, List.getElem?_cons_zero]
                repeat (first | ((with_reducible refine wpFr_yes ?hw ?_); (case hw => rfl); intro K hK; go_simp; (first | (refine hK _ ?_; clear hK K) | (apply Exists.intro; refine ⟨fun x => ?_, hK _ ?_⟩; (fail); clear hK K))) | ((with_reducible refine wpFr_not ?hw ?_); (case hw => rfl); intro K hK; go_simp; (refine hK _ ?_; clear hK K)))
                refine wpFr_nil ?_
                refine wpTl_nil fun y hyy => ?_
                go_wp2
                go_roundw
                case rel =>
                  refine ⟨0 + 1, _, rfl, rfl, by omega, (fun i hi => ?_), hxk.trans hyy⟩
                  by_cases e : i = 0
                  · subst e; rw [HM.out.2.2.2.1]; have := HZ.out; simp [this]
                  · exact hpk.out i (by omega)
                case measure => simp [intOf]
              · obtain rfl : ki = 1 := by omega
                clear hki hk3
                go_wp2
                go_roundw
                case rel =>
                  refine ⟨1 + 1, _, rfl, rfl, by omega, (fun i hi => ?_), hx8.trans hxk⟩
                  by_cases e : i = 1
                  · subst e; unfold roundMiss; rw [HSM.out, hpk.out 0 (by omega)]; rfl
                  · exact hb.out i (by omega)
                case measure => simp [intOf]
        | false =>
          have h0 : v2.size ≠ 0 := fun h => by rw [isEmpty_toList] at hE; simp [h] at hE
          have hsm : slotMiss T0 P0 1 = false := by rw [HM.out.2.1]; simp [h0]
          have HZ := Lib.hid h0
          have HSM := Lib.hid hsm
          clear h0 hsm
          refine wp_region_ext [0, 1, 2, 3, 4, 5, 6, 7, 8, 9, 10] [] (by kernel_rfl) (by kernel_rfl) ?_
          simp only [List.filterMap_cons, List.filterMap_nil, List.getElem?_cons_succ, List.getElem?_cons_zero]
          repeat (first | ((with_reducible refine wpFr_yes ?hw ?_); (case hw => rfl); intro K hK; go_simp; (first | (refine hK _ ?_; clear hK K) | (apply Exists.intro; refine ⟨fun x => ?_, hK _ ?_⟩; (fail); clear hK K))) | ((with_reducible refine wpFr_not ?hw ?_); (case hw => rfl); intro K hK; go_simp; (refine hK _ ?_; clear hK K)))
          refine wpFr_nil ?_
          refine wpTl_nil fun x hxx => ?_
          clear A5 A6 A8
          go_wp2
          go_loopw [31] (fun kv wk => ∃ (k : Nat) (ki : Int), kv = .int .i64 ki ∧ ki = (k : Int) ∧ k ≤ 1 ∧ Hid (∀ i, i < k → pairMiss T0 P0 1 i = false) ∧ Ext w8 wk) (fun kv _ => 1 - (intOf kv).toNat)
          case atStart => exact ⟨0, 0, rfl, rfl, by omega, (fun i hi => absurd hi (Nat.not_lt_zero _)), hxx⟩
          case round =>
            obtain ⟨kk, ki, rfl, hki, hk3, hpk, hxk⟩ := hrel
            clear hxx
            obtain ⟨wk, rfl⟩ : ∃ wk : World, wk = wr := ⟨_, rfl⟩
            have hkk : kk = 0 ∨ kk = 1 := by omega
            rcases hkk with rfl | rfl
            · obtain rfl : ki = 0 := by omega
              clear hki hk3
              cases hv : (v1.toList == v2.toList) with
              | false =>
                have hn : ¬ v1 = v2 := fun h => by rw [strEq_eq] at hv; simp [h] at hv
                have HN := Lib.hid hn
                clear hn
                go_upto_region 10 with fail
                have A8 := Later.cells (heap_ext hxk hb8)
                have A5 := Later.cells (heap_ext hxk hc5)
                have A6 := Later.cells (heap_ext hxk hc6)
                refine wp_region_ext [0, 1, 2, 3, 4, 5, 6, 7, 8, 9, 10, 11, 12, 13, 14, 15, 16, 17, 18, 19, 20] [] (by kernel_rfl) (by kernel_rfl) ?_
                simp only [List.filterMap_cons, List.filterMap_nil, List.getElem?_cons_succ, List.getElem?_cons_zero]
                repeat (first | ((with_reducible refine wpFr_yes ?hw ?_); (case hw => rfl); intro K hK; go_simp; (first | (refine hK _ ?_; clear hK K) | (apply Exists.intro; refine ⟨fun x => ?_, hK _ ?_⟩; (fail); clear hK K))) | ((with_reducible refine wpFr_not ?hw ?_); (case hw => rfl); intro K hK; go_simp; (refine hK _ ?_; clear hK K)))
                refine wpFr_nil ?_
                refine wpTl_nil fun y hyy => ?_
                go_wp2
                go_roundw
                case rel =>
                  refine ⟨0 + 1, _, rfl, rfl, by omega, (fun i hi => ?_), hxk.trans hyy⟩
                  by_cases e : i = 0
                  · subst e; rw [HM.out.2.2.2.1]; have := HN.out; simp [this]
                  · exact hpk.out i (by omega)
                case measure => simp [intOf]
              | true =>
                have hn : v1 = v2 := by rw [strEq_eq] at hv; simpa using hv
                have HN := Lib.hid hn
                clear hn
                cases hq3 : tmEq ⟨q1, r1, u1⟩ ⟨q2, r2, u2⟩ with
                | true =>
                  go_upto_region 10 with fail
                  have A8 := Later.cells (heap_ext hxk hb8)
                  have A5 := Later.cells (heap_ext hxk hc5)
                  have A6 := Later.cells (heap_ext hxk hc6)
                  refine wp_region_ext [0, 1, 2, 3, 4, 5, 6, 7, 8, 9, 10, 11, 12, 13, 14, 15, 16, 17, 18, 19, 20] [] (by kernel_rfl) (by kernel_rfl) ?_
                  simp only [List.filterMap_cons, List.filterMap_nil, List.getElem?_cons_succ, List.getElem?_cons_zero]
                  repeat (first | ((with_reducible refine wpFr_yes ?hw ?_); (case hw => rfl); intro K hK; go_simp; (first | (refine hK _ ?_; clear hK K) | (apply Exists.intro; refine ⟨fun x => ?_, hK _ ?_⟩; (fail); clear hK K))) | ((with_reducible refine wpFr_not ?hw ?_); (case hw => rfl); intro K hK; go_simp; (refine hK _ ?_; clear hK K)))
                  refine wpFr_nil ?_
                  refine wpTl_nil fun y hyy => ?_
                  go_wp2
                  go_roundw
                  case rel =>
                    refine ⟨0 + 1, _, rfl, rfl, by omega, (fun i hi => ?_), hxk.trans hyy⟩
                    by_cases e : i = 0
                    · subst e; rw [HM.out.2.2.2.1]; rw [hq3]; simp
                    · exact hpk.out i (by omega)
                  case measure => simp [intOf]
                | false =>
                  go_upto_region 10 with fail
                  have A8 := Later.cells (heap_ext hxk hb8)
                  have A5 := Later.cells (heap_ext hxk hc5)
                  have A6 := Later.cells (heap_ext hxk hc6)
                  refine wp_region_ext [0, 1, 2, 3, 4, 5, 6, 7, 8, 9, 10, 11, 12, 13, 14, 15, 16, 17, 18, 19, 20] [] (by kernel_rfl) (by kernel_rfl) ?_
                  simp only [List.filterMap_cons, List.filterMap_nil, List.getElem?_cons_succ, List.getElem?_cons_zero]
                  repeat (first | ((with_reducible refine wpFr_yes ?hw ?_); (case hw => rfl); intro K hK; go_simp; (first | (refine hK _ ?_; clear hK K) | (apply Exists.intro; refine ⟨fun x => ?_, hK _ ?_⟩; (fail); clear hK K))) | ((with_reducible refine wpFr_not ?hw ?_); (case hw => rfl); intro K hK; go_simp; (refine hK _ ?_; clear hK K)))
                  refine wpFr_nil ?_
                  refine wpTl_nil fun y hyy => ?_
                  go_wp2
                  go_ret
                  exact ⟨by rw [fits_not (j := 1) (by omega) (by unfold roundMiss; rw [HM.out.2.2.2.1, HN.out, hq3]; have := HZ.out; simp [this])]; rfl, hcw.trans (hx8.trans (hxk.trans hyy))⟩
            · obtain rfl : ki = 1 := by omega
              clear hki hk3
              go_wp2
              go_roundw
              case rel =>
                refine ⟨1 + 1, _, rfl, rfl, by omega, (fun i hi => ?_), hx8.trans hxk⟩
                by_cases e : i = 1
                · subst e; unfold roundMiss; rw [HSM.out, hpk.out 0 (by omega)]; rfl
                · exact hb.out i (by omega)
              case measure => simp [intOf]
      · obtain rfl : ji = 2 := by omega
        clear hji hj
        go_upto_region 5 with fail
        have hb8 := alloc_heap_new wo (.cells #[.string v3, .int .i64 k3, .string s3, .string g3] 30)
        have hx8 := hxr.trans ((Ext.refl wo).alloc (.cells #[.string v3, .int .i64 k3, .string s3, .string g3] 30))
        generalize hw8 : World.alloc wo _ = w8 at hb8 hx8 ⊢
        clear hw8 hxr
        have hc5 := heap_ext hx8 hb5
        have hc6 := heap_ext hx8 hb6
        have A8 := Later.cells hb8
        have A5 := Later.cells hc5
        have A6 := Later.cells hc6
        cases hE : v3.toList.isEmpty with
        | true =>
          have h0 : v3.size = 0 := by rw [isEmpty_toList] at hE; simpa using hE
          have HZ := Lib.hid h0
          clear h0
          cases hq : tmEq ⟨k3, s3, g3⟩ ⟨q3, r3, u3⟩ with
          | false =>
            refine wp_region_ext [0, 1, 2, 3, 4, 5, 6, 7, 8, 9, 10] [] (by kernel_rfl) (by kernel_rfl) ?_
            simp only [List.filterMap_cons, List.filterMap_nil, List.getElem?_cons_succ, List.getElem?_cons_zero]
            repeat (first | ((with_reducible refine wpFr_yes ?hw ?_); (case hw => rfl); intro K hK; go_simp; (first | (refine hK _ ?_; clear hK K) | (apply Exists.intro; refine ⟨fun x => ?_, hK _ ?_⟩; (fail); clear hK K))) | ((with_reducible refine wpFr_not ?hw ?_); (case hw => rfl); intro K hK; go_simp; (refine hK _ ?_; clear hK K)))
            refine wpFr_nil ?_
            refine wpTl_nil fun x hxx => ?_
            go_wp2
            go_ret
            exact ⟨by rw [fits_not (j := 2) (by omega) (by unfold roundMiss; simp [HM.out.2.2.1, HZ.out, hq])]; rfl, hcw.trans (hx8.trans hxx)⟩
          | true =>
            have hsm : slotMiss T0 P0 2 = false := by rw [HM.out.2.2.1, hq]; simp
            have HSM := Lib.hid hsm
            clear hsm
            refine wp_region_ext [0, 1, 2, 3, 4, 5, 6, 7, 8, 9, 10] [] (by kernel_rfl) (by kernel_rfl) ?_
            simp only [List.filterMap_cons, List.filterMap_nil, List.getElem?_cons_succ, List.getElem?_cons_zero]
            repeat (first | ((with_reducible refine wpFr_yes ?hw ?_); (case hw => rfl); intro K hK; go_simp; (first | (refine hK _ ?_; clear hK K) | (apply Exists.intro; refine ⟨fun x => ?_, hK _ ?_⟩; (fail); clear hK K))) | ((with_reducible refine wpFr_not ?hw ?_); (case hw => rfl); intro K hK; go_simp; (refine hK _ ?_; clear hK K)))
            refine wpFr_nil ?_
            refine wpTl_nil fun x hxx => ?_
            clear A5 A6 A8
            go_wp2
            go_loopw [31] (fun kv wk => ∃ (k : Nat) (ki : Int), kv = .int .i64 ki ∧ ki = (k : Int) ∧ k ≤ 2 ∧ Hid (∀ i, i < k → pairMiss T0 P0 2 i = false) ∧ Ext w8 wk) (fun kv _ => 2 - (intOf kv).toNat)
            case atStart => exact ⟨0, 0, rfl, rfl, by omega, (fun i hi => absurd hi (Nat.not_lt_zero _)), hxx⟩
            case round =>
              obtain ⟨kk, ki, rfl, hki, hk3, hpk, hxk⟩ := hrel
              clear hxx
              obtain ⟨wk, rfl⟩ : ∃ wk : World, wk = wr := ⟨_, rfl⟩
              have hkk : kk = 0 ∨ kk = 1 ∨ kk = 2 := by omega
              rcases hkk with rfl | rfl | rfl
              · obtain rfl : ki = 0 := by omega
                clear hki hk3
                go_upto_region 10 with fail
                have A8 := Later.cells (heap_ext hxk hb8)
                have A5 := Later.cells (heap_ext hxk hc5)
                have A6 := Later.cells (heap_ext hxk hc6)
                refine wp_region_ext [0, 1, 2, 3, 4, 5, 6, 7, 8, 9, 10, 11, 12, 13, 14, 15, 16, 17, 18, 19, 20] [] (by kernel_rfl) (by kernel_rfl) ?_
                simp only [List.filterMap_cons, List.filterMap_nil, List.getElem?_cons_succ, List.getElem?_cons_zero]
                repeat (first | ((with_reducible refine wpFr_yes ?hw ?_); (case hw => rfl); intro K hK; go_simp; (first | (refine hK _ ?_; clear hK K) | (apply Exists.intro; refine ⟨fun x => ?_, hK _ ?_⟩; (fail); clear hK K))) | ((with_reducible refine wpFr_not ?hw ?_); (case hw => rfl); intro K hK; go_simp; (refine hK _ ?_; clear hK K)))
                refine wpFr_nil ?_
                refine wpTl_nil fun y hyy => ?_
                go_wp2
                go_roundw
                case rel =>
                  refine ⟨0 + 1, _, rfl, rfl, by omega, (fun i hi => ?_), hxk.trans hyy⟩
                  by_cases e : i = 0
                  · subst e; rw [HM.out.2.2.2.2.1]; have := HZ.out; simp [this]
                  · exact hpk.out i (by omega)
                case measure => simp [intOf]
              · obtain rfl : ki = 1 := by omega
                clear hki hk3
                go_upto_region 10 with fail
                have A8 := Later.cells (heap_ext hxk hb8)
                have A5 := Later.cells (heap_ext hxk hc5)
                have A6 := Later.cells (heap_ext hxk hc6)
                refine wp_region_ext [0, 1, 2, 3, 4, 5, 6, 7, 8, 9, 10, 11, 12, 13, 14, 15, 16, 17, 18, 19, 20] [] (by kernel_rfl) (by kernel_rfl) ?_
                simp only [List.filterMap_cons, List.filterMap_nil, List.getElem?_cons_succ, List.getElem?_cons_zero]
                repeat (first | ((with_reducible refine wpFr_yes ?hw ?_); (case hw => rfl); intro K hK; go_simp; (first | (refine hK _ ?_; clear hK K) | (apply Exists.intro; refine ⟨fun x => ?_, hK _ ?_⟩; (fail); clear hK K))) | ((with_reducible refine wpFr_not ?hw ?_); (case hw => rfl); intro K hK; go_simp; (refine hK _ ?_; clear hK K)))
                refine wpFr_nil ?_
                refine wpTl_nil fun y hyy => ?_
                go_wp2
                go_roundw
                case rel =>
                  refine ⟨1 + 1, _, rfl, rfl, by omega, (fun i hi => ?_), hxk.trans hyy⟩
                  by_cases e : i = 1
                  · subst e; rw [HM.out.2.2.2.2.2]; have := HZ.out; simp [this]
                  · exact hpk.out i (by omega)
                case measure => simp [intOf]
              · obtain rfl : ki = 2 := by omega
                clear hki hk3
                go_wp2
                go_roundw
                case rel =>
                  refine ⟨2 + 1, _, rfl, rfl, by omega, (fun i hi => ?_), hx8.trans hxk⟩
                  by_cases e : i = 2
                  · subst e; unfold roundMiss; rw [HSM.out, hpk.out 0 (by omega), hpk.out 1 (by omega)]; rfl
                  · exact hb.out i (by omega)
                case measure => simp [intOf]
        | false =>
          have h0 : v3.size ≠ 0 := fun h => by rw [isEmpty_toList] at hE; simp [h] at hE
          have hsm : slotMiss T0 P0 2 = false := by rw [HM.out.2.2.1]; simp [h0]
          have HZ := Lib.hid h0
          have HSM := Lib.hid hsm
          clear h0 hsm
          refine wp_region_ext [0, 1, 2, 3, 4, 5, 6, 7, 8, 9, 10] [] (by kernel_rfl) (by kernel_rfl) ?_
          simp only [List.filterMap_cons, List.filterMap_nil, List.getElem?_cons_succ, List.getElem?_cons_zero]
          repeat (first | ((with_reducible refine wpFr_yes ?hw ?_); (case hw => rfl); intro K hK; go_simp; (first | (refine hK _ ?_; clear hK K) | (apply Exists.intro; refine ⟨fun x => ?_, hK _ ?_⟩; (fail); clear hK K))) | ((with_reducible refine wpFr_not ?hw ?_); (case hw => rfl); intro K hK; go_simp; (refine hK _ ?_; clear hK K)))
          refine wpFr_nil ?_
          refine wpTl_nil fun x hxx => ?_
          clear A5 A6 A8
          go_wp2
          go_loopw [31] (fun kv wk => ∃ (k : Nat) (ki : Int), kv = .int .i64 ki ∧ ki = (k : Int) ∧ k ≤ 2 ∧ Hid (∀ i, i < k → pairMiss T0 P0 2 i = false) ∧ Ext w8 wk) (fun kv _ => 2 - (intOf kv).toNat)
          case atStart => exact ⟨0, 0, rfl, rfl, by omega, (fun i hi => absurd hi (Nat.not_lt_zero _)), hxx⟩
          case round =>
            obtain ⟨kk, ki, rfl, hki, hk3, hpk, hxk⟩ := hrel
            clear hxx
            obtain ⟨wk, rfl⟩ : ∃ wk : World, wk = wr := ⟨_, rfl⟩
            have hkk : kk = 0 ∨ kk = 1 ∨ kk = 2 := by omega
            rcases hkk with rfl | rfl | rfl
            · obtain rfl : ki = 0 := by omega
              clear hki hk3
              cases hv : (v1.toList == v3.toList) with
              | false =>
                have hn : ¬ v1 = v3 := fun h => by rw [strEq_eq] at hv; simp [h] at hv
                have HN := Lib.hid hn
                clear hn
                go_upto_region 10 with fail
                have A8 := Later.cells (heap_ext hxk hb8)
                have A5 := Later.cells (heap_ext hxk hc5)
                have A6 := Later.cells (heap_ext hxk hc6)
                refine wp_region_ext [0, 1, 2, 3, 4, 5, 6, 7, 8, 9, 10, 11, 12, 13, 14, 15, 16, 17, 18, 19, 20] [] (by kernel_rfl) (by kernel_rfl) ?_
                simp only [List.filterMap_cons, List.filterMap_nil, List.getElem?_cons_succ, List.getElem?_cons_zero]
                repeat (first | ((with_reducible refine wpFr_yes ?hw ?_); (case hw => rfl); intro K hK; go_simp; (first | (refine hK _ ?_; clear hK K) | (apply Exists.intro; refine ⟨fun x => ?_, hK _ ?_⟩; (fail); clear hK K))) | ((with_reducible refine wpFr_not ?hw ?_); (case hw => rfl); intro K hK; go_simp; (refine hK _ ?_; clear hK K)))
                refine wpFr_nil ?_
                refine wpTl_nil fun y hyy => ?_
                go_wp2
                go_roundw
                case rel =>
                  refine ⟨0 + 1, _, rfl, rfl, by omega, (fun i hi => ?_), hxk.trans hyy⟩
                  by_cases e : i = 0
                  · subst e; rw [HM.out.2.2.2.2.1]; have := HN.out; simp [this]
                  · exact hpk.out i (by omega)
                case measure => simp [intOf]
              | true =>
                have hn : v1 = v3 := by rw [strEq_eq] at hv; simpa using hv
                have HN := Lib.hid hn
                clear hn
                cases hq3 : tmEq ⟨q1, r1, u1⟩ ⟨q3, r3, u3⟩ with
                | true =>
                  go_upto_region 10 with fail
                  have A8 := Later.cells (heap_ext hxk hb8)
                  have A5 := Later.cells (heap_ext hxk hc5)
                  have A6 := Later.cells (heap_ext hxk hc6)
                  refine wp_region_ext [0, 1, 2, 3, 4, 5, 6, 7, 8, 9, 10, 11, 12, 13, 14, 15, 16, 17, 18, 19, 20] [] (by kernel_rfl) (by kernel_rfl) ?_
                  simp only [List.filterMap_cons, List.filterMap_nil, List.getElem?_cons_succ, List.getElem?_cons_zero]
                  repeat (first | ((with_reducible refine wpFr_yes ?hw ?_); (case hw => rfl); intro K hK; go_simp; (first | (refine hK _ ?_; clear hK K) | (apply Exists.intro; refine ⟨fun x => ?_, hK _ ?_⟩; (fail); clear hK K))) | ((with_reducible refine wpFr_not ?hw ?_); (case hw => rfl); intro K hK; go_simp; (refine hK _ ?_; clear hK K)))
                  refine wpFr_nil ?_
                  refine wpTl_nil fun y hyy => ?_
                  go_wp2
                  go_roundw
                  case rel =>
                    refine ⟨0 + 1, _, rfl, rfl, by omega, (fun i hi => ?_), hxk.trans hyy⟩
                    by_cases e : i = 0
                    · subst e; rw [HM.out.2.2.2.2.1]; rw [hq3]; simp
                    · exact hpk.out i (by omega)
                  case measure => simp [intOf]
                | false =>
                  go_upto_region 10 with fail
                  have A8 := Later.cells (heap_ext hxk hb8)
                  have A5 := Later.cells (heap_ext hxk hc5)
                  have A6 := Later.cells (heap_ext hxk hc6)
                  refine wp_region_ext [0, 1, 2, 3, 4, 5, 6, 7, 8, 9, 10, 11, 12, 13, 14, 15, 16, 17, 18, 19, 20] [] (by kernel_rfl) (by kernel_rfl) ?_
                  simp only [List.filterMap_cons, List.filterMap_nil, List.getElem?_cons_succ, List.getElem?_cons_zero]
                  repeat (first | ((with_reducible refine wpFr_yes ?hw ?_); (case hw => rfl); intro K hK; go_simp; (first | (refine hK _ ?_; clear hK K) | (apply Exists.intro; refine ⟨fun x => ?_, hK _ ?_⟩; (fail); clear hK K))) | ((with_reducible refine wpFr_not ?hw ?_); (case hw => rfl); intro K hK; go_simp; (refine hK _ ?_; clear hK K)))
                  refine wpFr_nil ?_
                  refine wpTl_nil fun y hyy => ?_
                  go_wp2
                  go_ret
                  exact ⟨by rw [fits_not (j := 2) (by omega) (by unfold roundMiss; rw [HM.out.2.2.2.2.1, HN.out, hq3]; have := HZ.out; simp [this])]; rfl, hcw.trans (hx8.trans (hxk.trans hyy))⟩
            · obtain rfl : ki = 1 := by omega
              clear hki hk3
              cases hv : (v2.toList == v3.toList) with
              | false =>
                have hn : ¬ v2 = v3 := fun h => by rw [strEq_eq] at hv; simp [h] at hv
                have HN := Lib.hid hn
                clear hn
                go_upto_region 10 with fail
                have A8 := Later.cells (heap_ext hxk hb8)
                have A5 := Later.cells (heap_ext hxk hc5)
                have A6 := Later.cells (heap_ext hxk hc6)
                refine wp_region_ext [0, 1, 2, 3, 4, 5, 6, 7, 8, 9, 10, 11, 12, 13, 14, 15, 16, 17, 18, 19, 20] [] (by kernel_rfl) (by kernel_rfl) ?_
                simp only [List.filterMap_cons, List.filterMap_nil, List.getElem?_cons_succ, List.getElem?_cons_zero]
                repeat (first | ((with_reducible refine wpFr_yes ?hw ?_); (case hw => rfl); intro K hK; go_simp; (first | (refine hK _ ?_; clear hK K) | (apply Exists.intro; refine ⟨fun x => ?_, hK _ ?_⟩; (fail); clear hK K))) | ((with_reducible refine wpFr_not ?hw ?_); (case hw => rfl); intro K hK; go_simp; (refine hK _ ?_; clear hK K)))
                refine wpFr_nil ?_
                refine wpTl_nil fun y hyy => ?_
                go_wp2
                go_roundw
                case rel =>
                  refine ⟨1 + 1, _, rfl, rfl, by omega, (fun i hi => ?_), hxk.trans hyy⟩
                  by_cases e : i = 1
                  · subst e; rw [HM.out.2.2.2.2.2]; have := HN.out; simp [this]
                  · exact hpk.out i (by omega)
                case measure => simp [intOf]
              | true =>
                have hn : v2 = v3 := by rw [strEq_eq] at hv; simpa using hv
                have HN := Lib.hid hn
                clear hn
                cases hq3 : tmEq ⟨q2, r2, u2⟩ ⟨q3, r3, u3⟩ with
                | true =>
                  go_upto_region 10 with fail
                  have A8 := Later.cells (heap_ext hxk hb8)
                  have A5 := Later.cells (heap_ext hxk hc5)
                  have A6 := Later.cells (heap_ext hxk hc6)
                  refine wp_region_ext [0, 1, 2, 3, 4, 5, 6, 7, 8, 9, 10, 11, 12, 13, 14, 15, 16, 17, 18, 19, 20] [] (by kernel_rfl) (by kernel_rfl) ?_
                  simp only [List.filterMap_cons, List.filterMap_nil, List.getElem?_cons_succ, List.getElem?_cons_zero]
                  repeat (first | ((with_reducible refine wpFr_yes ?hw ?_); (case hw => rfl); intro K hK; go_simp; (first | (refine hK _ ?_; clear hK K) | (apply Exists.intro; refine ⟨fun x => ?_, hK _ ?_⟩; (fail); clear hK K))) | ((with_reducible refine wpFr_not ?hw ?_); (case hw => rfl); intro K hK; go_simp; (refine hK _ ?_; clear hK K)))
                  refine wpFr_nil ?_
                  refine wpTl_nil fun y hyy => ?_
                  go_wp2
                  go_roundw
                  case rel =>
                    refine ⟨1 + 1, _, rfl, rfl, by omega, (fun i hi => ?_), hxk.trans hyy⟩
                    by_cases e : i = 1
                    · subst e; rw [HM.out.2.2.2.2.2]; rw [hq3]; simp
                    · exact hpk.out i (by omega)
                  case measure => simp [intOf]
                | false =>
                  go_upto_region 10 with fail
                  have A8 := Later.cells (heap_ext hxk hb8)
                  have A5 := Later.cells (heap_ext hxk hc5)
                  have A6 := Later.cells (heap_ext hxk hc6)
                  refine wp_region_ext [0, 1, 2, 3, 4, 5, 6, 7, 8, 9, 10, 11, 12, 13, 14, 15, 16, 17, 18, 19, 20] [] (by kernel_rfl) (by kernel_rfl) ?_
                  simp only [List.filterMap_cons, List.filterMap_nil, List.getElem?_cons_succ, List.getElem?_cons_zero]
                  repeat (first | ((with_reducible refine wpFr_yes ?hw ?_); (case hw => rfl); intro K hK; go_simp; (first | (refine hK _ ?_; clear hK K) | (apply Exists.intro; refine ⟨fun x => ?_, hK _ ?_⟩; (fail); clear hK K))) | ((with_reducible refine wpFr_not ?hw ?_); (case hw => rfl); intro K hK; go_simp; (refine hK _ ?_; clear hK K)))
                  refine wpFr_nil ?_
                  refine wpTl_nil fun y hyy => ?_
                  go_wp2
                  go_ret
                  exact ⟨by rw [fits_not (j := 2) (by omega) (by unfold roundMiss; rw [HM.out.2.2.2.2.2, HN.out, hq3]; have := HZ.out; simp [this])]; rfl, hcw.trans (hx8.trans (hxk.trans hyy))⟩
            · obtain rfl : ki = 2 := by omega
              clear hki hk3
              go_wp2
              go_roundw
              case rel =>
                refine ⟨2 + 1, _, rfl, rfl, by omega, (fun i hi => ?_), hx8.trans hxk⟩
                by_cases e : i = 2
                · subst e; unfold roundMiss; rw [HSM.out, hpk.out 0 (by omega), hpk.out 1 (by omega)]; rfl
                · exact hb.out i (by omega)
              case measure => simp [intOf]
      · obtain rfl : ji = 3 := by omega
        clear hji hj
        go_wp2
        go_ret
        exact ⟨by rw [fits_yes fun i hi => hb.out i hi]; rfl, hcw.trans hxr⟩
end Go.Proofs.Ytmobdmljbbckiaa
