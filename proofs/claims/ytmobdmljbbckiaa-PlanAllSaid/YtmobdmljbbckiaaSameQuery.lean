/- '==' and '!=' of two patterns, whole. -/
import Derived.Test.YtmobdmljbbckiaaTmEq
import Derived.Test.YtmobdmljbbckiaaMatchPure
import Derived.Test.YtmobdmljbbckiaaRegion
import Derived.Test.YtmobdmljbbckiaaQueryPure
import Derived.Test.YtmobdmljbbckiaaOwnSet
namespace Go.Proofs.Ytmobdmljbbckiaa
open Go.RowKit
set_option maxHeartbeats 6400000
set_option maxRecDepth 100000

/-- two patterns are the same -/
def patEq (a b : Pat) : Bool := decide (a = b)
theorem neq_pat0 (a b : Pat) (w : World) : (binOp .neq 32 (vPat a) (vPat b)).run Try.prog w = .ok (.bool (decide (a ≠ b))) w := by
  go_simp
  simp only [toList_inj]
  obtain ⟨⟨v1, k1, s1, g1⟩, ⟨v2, k2, s2, g2⟩, ⟨v3, k3, s3, g3⟩⟩ := a
  obtain ⟨⟨x1, q1, r1, u1⟩, ⟨x2, q2, r2, u2⟩, ⟨x3, q3, r3, u3⟩⟩ := b
  simp only [Pat.mk.injEq, Slot.mk.injEq, Tm.mk.injEq, ne_eq]
  by_cases h1 : v1 = x1
  case neg => simp [h1]
  by_cases h2 : k1 = q1
  case neg => simp [h1, h2]
  by_cases h3 : s1 = r1
  case neg => simp [h1, h2, h3]
  by_cases h4 : g1 = u1
  case neg => simp [h1, h2, h3, h4]
  by_cases h5 : v2 = x2
  case neg => simp [h1, h2, h3, h4, h5]
  by_cases h6 : k2 = q2
  case neg => simp [h1, h2, h3, h4, h5, h6]
  by_cases h7 : s2 = r2
  case neg => simp [h1, h2, h3, h4, h5, h6, h7]
  by_cases h8 : g2 = u2
  case neg => simp [h1, h2, h3, h4, h5, h6, h7, h8]
  by_cases h9 : v3 = x3
  case neg => simp [h1, h2, h3, h4, h5, h6, h7, h8, h9]
  by_cases h10 : k3 = q3
  case neg => simp [h1, h2, h3, h4, h5, h6, h7, h8, h9, h10]
  by_cases h11 : s3 = r3
  case neg => simp [h1, h2, h3, h4, h5, h6, h7, h8, h9, h10, h11]
  by_cases h12 : g3 = u3
  case neg => simp [h1, h2, h3, h4, h5, h6, h7, h8, h9, h10, h11, h12]
  simp [h1, h2, h3, h4, h5, h6, h7, h8, h9, h10, h11, h12]
@[go_sem high] theorem neq_pat (k1 k2 k3 q1 q2 q3 : Int) (v1 v2 v3 x1 x2 x3 s1 s2 s3 g1 g2 g3 r1 r2 r3 u1 u2 u3 : ByteArray) (w : World) : (binOp .neq 32 (.agg #[.string v1, .int .i64 k1, .string s1, .string g1, .string v2, .int .i64 k2, .string s2, .string g2, .string v3, .int .i64 k3, .string s3, .string g3]) (.agg #[.string x1, .int .i64 q1, .string r1, .string u1, .string x2, .int .i64 q2, .string r2, .string u2, .string x3, .int .i64 q3, .string r3, .string u3])).run Try.prog w = .ok (.bool (!patEq ⟨⟨v1, ⟨k1, s1, g1⟩⟩, ⟨v2, ⟨k2, s2, g2⟩⟩, ⟨v3, ⟨k3, s3, g3⟩⟩⟩ ⟨⟨x1, ⟨q1, r1, u1⟩⟩, ⟨x2, ⟨q2, r2, u2⟩⟩, ⟨x3, ⟨q3, r3, u3⟩⟩⟩)) w := by
  rw [neq_pat0 ⟨⟨v1, ⟨k1, s1, g1⟩⟩, ⟨v2, ⟨k2, s2, g2⟩⟩, ⟨v3, ⟨k3, s3, g3⟩⟩⟩ ⟨⟨x1, ⟨q1, r1, u1⟩⟩, ⟨x2, ⟨q2, r2, u2⟩⟩, ⟨x3, ⟨q3, r3, u3⟩⟩⟩ w]; simp [patEq]
end Go.Proofs.Ytmobdmljbbckiaa

/- stratasame.Texts: the equality of texts. -/
namespace Go.Proofs.Ytmobdmljbbckiaa
open Go.RowKit
set_option maxHeartbeats 3200000
set_option maxRecDepth 100000

theorem texts_any (va vb : Value) (a b : List ByteArray) (w : World) (ha : Reads encS w va a) (hb : Reads encS w vb b) :
    Calls Try.prog 34 #[va, vb] w fun e w' => e = .returned (.bool (decide (a = b))) ∧ Ext w w' := by
  obtain ⟨aa, ca, rfl, hca, hma, hcla⟩ := ha
  obtain ⟨ab, cb, rfl, hcb, hmb, hclb⟩ := hb
  unfold maxLen at hma hmb
  by_cases hl : a.length = b.length
  · rw [← hl]
    have HL := Lib.hid hl
    clear hl
    go_enter Try.func34, Try.ntmps34
    go_wp2
    go_loopw [5] (fun jv wr => ∃ j : Nat, jv = .int .i64 j ∧ j ≤ a.length ∧ Hid (∀ i, i < j → a[i]? = b[i]?) ∧ Ext w wr) (fun jv _ => a.length - (intOf jv).toNat)
    case atStart => exact ⟨0, rfl, Nat.zero_le _, Lib.hid (fun i hi => absurd hi (Nat.not_lt_zero _)), Ext.refl _⟩
    case round =>
      obtain ⟨j, rfl, hj, hpre, hxr⟩ := hrel
      by_cases hlt : j < a.length
      · have hltb : j < b.length := by have := HL.out; omega
        obtain ⟨ba, oa, rfl, hc⟩ := hcla (fun h => by simp [h] at hlt)
        obtain ⟨bb, ob, rfl, hd⟩ := hclb (fun h => by simp [h] at hltb)
        have C0 := Later.cell (hxr.cell (Reads.one_at (enc1 := Value.string) hc hlt))
        have D0 := Later.cell (hxr.cell (Reads.one_at (enc1 := Value.string) hd hltb))
        have hga : a[j]? = some a[j] := List.getElem?_eq_getElem hlt
        have hgb : b[j]? = some b[j] := List.getElem?_eq_getElem hltb
        clear hc hd hcla hclb hcb hmb
        generalize a[j] = s at C0 hga
        generalize b[j] = t at D0 hgb
        have HG := Lib.hid (And.intro hga hgb)
        clear hga hgb
        cases hq : decide (s = t) with
        | true =>
          have hst : (s.toList == t.toList) = true := by
            have := of_decide_eq_true hq
            rw [this]; simp
          go_upto_region 6 with fail
          refine wp_region_ext [0, 1, 2, 3, 4, 5, 6, 7, 8] [] (by kernel_rfl) (by kernel_rfl) ?_
          simp only [List.filterMap_cons, List.filterMap_nil, List.getElem?_cons_succ, List.getElem?_cons_zero]
          repeat (first | ((with_reducible refine wpFr_yes ?hw ?_); (case hw => rfl); intro K hK; go_simp; (first | (refine hK _ ?_; clear hK K) | (apply Exists.intro; refine ⟨fun x => ?_, hK _ ?_⟩; (fail); clear hK K))) | ((with_reducible refine wpFr_not ?hw ?_); (case hw => rfl); intro K hK; go_simp; (refine hK _ ?_; clear hK K)))
          refine wpFr_nil ?_
          refine wpTl_nil fun x hxx => ?_
          clear C0 D0
          have HQ := Lib.hid hq
          clear hq
          go_wp2
          go_roundw
          case rel =>
            refine ⟨j + 1, vi (by omega), hlt, Lib.hid (fun i hi => ?_), hxr.trans hxx⟩
            by_cases e : i = j
            · subst e
              rw [HG.out.1, HG.out.2, of_decide_eq_true HQ.out]
            · exact hpre.out i (by omega)
          case measure => simp [intOf]; omega
        | false =>
          have hst : (s.toList == t.toList) = false := by
            have := of_decide_eq_false hq
            exact beq_eq_false_iff_ne.2 (fun e => this ((toList_inj s t).1 e))
          go_upto_region 6 with fail
          refine wp_region_ext [0, 1, 2, 3, 4, 5, 6, 7, 8] [] (by kernel_rfl) (by kernel_rfl) ?_
          simp only [List.filterMap_cons, List.filterMap_nil, List.getElem?_cons_succ, List.getElem?_cons_zero]
          repeat (first | ((with_reducible refine wpFr_yes ?hw ?_); (case hw => rfl); intro K hK; go_simp; (first | (refine hK _ ?_; clear hK K) | (apply Exists.intro; refine ⟨fun x => ?_, hK _ ?_⟩; (fail); clear hK K))) | ((with_reducible refine wpFr_not ?hw ?_); (case hw => rfl); intro K hK; go_simp; (refine hK _ ?_; clear hK K)))
          refine wpFr_nil ?_
          refine wpTl_nil fun x hxx => ?_
          clear C0 D0
          have HQ := Lib.hid hq
          clear hq
          go_wp2
          go_ret
          refine ⟨?_, hxr.trans hxx⟩
          have hne : ¬ a = b := fun h => by
            have h1 := HG.out.1
            rw [h, HG.out.2] at h1
            exact of_decide_eq_false HQ.out (Option.some.inj h1).symm
          simp [hne]
      · have hjl : j = a.length := by omega
        subst hjl
        clear hcla hclb
        go_wp2
        go_ret
        refine ⟨?_, hxr⟩
        have he : a = b := by
          apply List.ext_getElem?
          intro i
          by_cases hi : i < a.length
          · exact hpre.out i hi
          · rw [List.getElem?_eq_none (by omega), List.getElem?_eq_none (by have := HL.out; omega)]
        simp [he]
  · have hne : ¬ a = b := fun h => hl (by rw [h])
    have h1 : ((a.length : Int) == (b.length : Int)) = false := beq_eq_false_iff_ne.2 (by omega)
    have h2 : ((a.length : Int) != (b.length : Int)) = true := by simp [bne, h1]
    have h3 : ¬ ((a.length : Int) = (b.length : Int)) := by omega
    have HN := Lib.hid hne
    clear hne hcla hclb
    go_enter Try.func34, Try.ntmps34
    go_wp2
    go_ret
    exact ⟨by simp [HN.out], Ext.refl _⟩

end Go.Proofs.Ytmobdmljbbckiaa

/- stratasame.Parts: the equality of patterns. -/
namespace Go.Proofs.Ytmobdmljbbckiaa
open Go.RowKit
set_option maxHeartbeats 3200000
set_option maxRecDepth 100000

theorem parts_any (va vb : Value) (a b : List Pat) (w : World) (ha : Reads encPat w va a) (hb : Reads encPat w vb b) :
    Calls Try.prog 35 #[va, vb] w fun e w' => e = .returned (.bool (decide (a = b))) ∧ Ext w w' := by
  obtain ⟨aa, ca, rfl, hca, hma, hcla⟩ := ha
  obtain ⟨ab, cb, rfl, hcb, hmb, hclb⟩ := hb
  unfold maxLen at hma hmb
  by_cases hl : a.length = b.length
  · rw [← hl]
    have HL := Lib.hid hl
    clear hl
    go_enter Try.func35, Try.ntmps35
    go_wp2
    go_loopw [5] (fun jv wr => ∃ j : Nat, jv = .int .i64 j ∧ j ≤ a.length ∧ Hid (∀ i, i < j → a[i]? = b[i]?) ∧ Ext w wr) (fun jv _ => a.length - (intOf jv).toNat)
    case atStart => exact ⟨0, rfl, Nat.zero_le _, Lib.hid (fun i hi => absurd hi (Nat.not_lt_zero _)), Ext.refl _⟩
    case round =>
      obtain ⟨j, rfl, hj, hpre, hxr⟩ := hrel
      by_cases hlt : j < a.length
      · have hltb : j < b.length := by have := HL.out; omega
        obtain ⟨ba, oa, rfl, hc⟩ := hcla (fun h => by simp [h] at hlt)
        obtain ⟨bb, ob, rfl, hd⟩ := hclb (fun h => by simp [h] at hltb)
        obtain ⟨c0, c1, c2, c3, c4, c5, c6, c7, c8, c9, c10, c11⟩ := Pat.cells hc hlt
        obtain ⟨d0, d1, d2, d3, d4, d5, d6, d7, d8, d9, d10, d11⟩ := Pat.cells hd hltb
        have C0 := Later.cell (hxr.cell c0)
        have C1 := Later.cell (hxr.cell c1)
        have C2 := Later.cell (hxr.cell c2)
        have C3 := Later.cell (hxr.cell c3)
        have C4 := Later.cell (hxr.cell c4)
        have C5 := Later.cell (hxr.cell c5)
        have C6 := Later.cell (hxr.cell c6)
        have C7 := Later.cell (hxr.cell c7)
        have C8 := Later.cell (hxr.cell c8)
        have C9 := Later.cell (hxr.cell c9)
        have C10 := Later.cell (hxr.cell c10)
        have C11 := Later.cell (hxr.cell c11)
        have D0 := Later.cell (hxr.cell d0)
        have D1 := Later.cell (hxr.cell d1)
        have D2 := Later.cell (hxr.cell d2)
        have D3 := Later.cell (hxr.cell d3)
        have D4 := Later.cell (hxr.cell d4)
        have D5 := Later.cell (hxr.cell d5)
        have D6 := Later.cell (hxr.cell d6)
        have D7 := Later.cell (hxr.cell d7)
        have D8 := Later.cell (hxr.cell d8)
        have D9 := Later.cell (hxr.cell d9)
        have D10 := Later.cell (hxr.cell d10)
        have D11 := Later.cell (hxr.cell d11)
        have hga : a[j]? = some a[j] := List.getElem?_eq_getElem hlt
        have hgb : b[j]? = some b[j] := List.getElem?_eq_getElem hltb
        clear c0 c1 c2 c3 c4 c5 c6 c7 c8 c9 c10 c11 d0 d1 d2 d3 d4 d5 d6 d7 d8 d9 d10 d11 hc hd hcla hclb hcb hmb
        generalize a[j] = s at C0 C1 C2 C3 C4 C5 C6 C7 C8 C9 C10 C11 hga
        generalize b[j] = t at D0 D1 D2 D3 D4 D5 D6 D7 D8 D9 D10 D11 hgb
        obtain ⟨⟨v1, ⟨k1, s1, g1⟩⟩, ⟨v2, ⟨k2, s2, g2⟩⟩, ⟨v3, ⟨k3, s3, g3⟩⟩⟩ := s
        obtain ⟨⟨x1, ⟨q1, r1, u1⟩⟩, ⟨x2, ⟨q2, r2, u2⟩⟩, ⟨x3, ⟨q3, r3, u3⟩⟩⟩ := t
        dsimp only at *
        have HG := Lib.hid (And.intro hga hgb)
        clear hga hgb
        cases hq : patEq ⟨⟨v1, ⟨k1, s1, g1⟩⟩, ⟨v2, ⟨k2, s2, g2⟩⟩, ⟨v3, ⟨k3, s3, g3⟩⟩⟩ ⟨⟨x1, ⟨q1, r1, u1⟩⟩, ⟨x2, ⟨q2, r2, u2⟩⟩, ⟨x3, ⟨q3, r3, u3⟩⟩⟩ with
        | true =>
          go_upto_region 6 with fail
          refine wp_region_ext [0, 1, 2, 3, 4, 5, 6, 7, 8] [] (by kernel_rfl) (by kernel_rfl) ?_
          simp only [List.filterMap_cons, List.filterMap_nil, List.getElem?_cons_succ, List.getElem?_cons_zero]
          repeat (first | ((with_reducible refine wpFr_yes ?hw ?_); (case hw => rfl); intro K hK; go_simp; (first | (refine hK _ ?_; clear hK K) | (apply Exists.intro; refine ⟨fun x => ?_, hK _ ?_⟩; (fail); clear hK K))) | ((with_reducible refine wpFr_not ?hw ?_); (case hw => rfl); intro K hK; go_simp; (refine hK _ ?_; clear hK K)))
          refine wpFr_nil ?_
          refine wpTl_nil fun x hxx => ?_
          clear C0 C1 C2 C3 C4 C5 C6 C7 C8 C9 C10 C11 D0 D1 D2 D3 D4 D5 D6 D7 D8 D9 D10 D11
          have HQ := Lib.hid hq
          clear hq
          go_wp2
          go_roundw
          case rel =>
            refine ⟨j + 1, vi (by omega), hlt, Lib.hid (fun i hi => ?_), hxr.trans hxx⟩
            by_cases e : i = j
            · subst e
              rw [HG.out.1, HG.out.2]
              have := HQ.out
              simp only [patEq, decide_eq_true_eq] at this
              rw [this]
            · exact hpre.out i (by omega)
          case measure => simp [intOf]; omega
        | false =>
          go_upto_region 6 with fail
          refine wp_region_ext [0, 1, 2, 3, 4, 5, 6, 7, 8] [] (by kernel_rfl) (by kernel_rfl) ?_
          simp only [List.filterMap_cons, List.filterMap_nil, List.getElem?_cons_succ, List.getElem?_cons_zero]
          repeat (first | ((with_reducible refine wpFr_yes ?hw ?_); (case hw => rfl); intro K hK; go_simp; (first | (refine hK _ ?_; clear hK K) | (apply Exists.intro; refine ⟨fun x => ?_, hK _ ?_⟩; (fail); clear hK K))) | ((with_reducible refine wpFr_not ?hw ?_); (case hw => rfl); intro K hK; go_simp; (refine hK _ ?_; clear hK K)))
          refine wpFr_nil ?_
          refine wpTl_nil fun x hxx => ?_
          clear C0 C1 C2 C3 C4 C5 C6 C7 C8 C9 C10 C11 D0 D1 D2 D3 D4 D5 D6 D7 D8 D9 D10 D11
          have HQ := Lib.hid hq
          clear hq
          go_wp2
          go_ret
          refine ⟨?_, hxr.trans hxx⟩
          have hne : ¬ a = b := fun h => by
            have h1 := HG.out.1
            rw [h, HG.out.2] at h1
            have := HQ.out
            simp only [patEq, decide_eq_false_iff_not] at this
            exact this (Option.some.inj h1).symm
          simp [hne]
      · have hjl : j = a.length := by omega
        subst hjl
        clear hcla hclb
        go_wp2
        go_ret
        refine ⟨?_, hxr⟩
        have he : a = b := by
          apply List.ext_getElem?
          intro i
          by_cases hi : i < a.length
          · exact hpre.out i hi
          · rw [List.getElem?_eq_none (by omega), List.getElem?_eq_none (by have := HL.out; omega)]
        simp [he]
  · have hne : ¬ a = b := fun h => hl (by rw [h])
    have h1 : ((a.length : Int) == (b.length : Int)) = false := beq_eq_false_iff_ne.2 (by omega)
    have h2 : ((a.length : Int) != (b.length : Int)) = true := by simp [bne, h1]
    have h3 : ¬ ((a.length : Int) = (b.length : Int)) := by omega
    have HN := Lib.hid hne
    clear hne hcla hclb
    go_enter Try.func35, Try.ntmps35
    go_wp2
    go_ret
    exact ⟨by simp [HN.out], Ext.refl _⟩

end Go.Proofs.Ytmobdmljbbckiaa

/- stratasame.Query of two queries that are alike. -/
namespace Go.Proofs.Ytmobdmljbbckiaa
open Go.RowKit
set_option maxHeartbeats 3200000
set_option maxRecDepth 100000

theorem query_same (va vb pa pb : Value) (q : Qu) (w : World) (h1 : Reads encS w va q.vars) (h2 : Reads encPat w pa q.parts) (h3 : Reads encS w vb q.vars) (h4 : Reads encPat w pb q.parts) :
    Calls Try.prog 11 #[vQu va pa q, vQu vb pb q] w fun e w' => e = .returned (.bool true) ∧ Ext w w' := by
  have hT := fun W (hW : Ext w W) => texts_any va vb q.vars q.vars W (h1.ext hW) (h3.ext hW)
  have hP := fun W (hW : Ext w W) => parts_any pa pb q.parts q.parts W (h2.ext hW) (h4.ext hW)
  simp only [decide_true] at hT hP
  obtain ⟨a1, c1, rfl⟩ := h1.slice
  obtain ⟨a2, c2, rfl⟩ := h2.slice
  obtain ⟨a3, c3, rfl⟩ := h3.slice
  obtain ⟨a4, c4, rfl⟩ := h4.slice
  have HH := Lib.hid (And.intro hT hP)
  clear hT hP h1 h2 h3 h4
  obtain ⟨vars, parts, order, down, dist, limit⟩ := q
  dsimp only at *
  have hxb := ((Ext.refl w).alloc (.cells #[.slice a1 vars.length c1, .slice a2 parts.length c2, .string order, .bool down, .bool dist, .int .i64 limit] 26)).alloc (.cells #[.slice a3 vars.length c3, .slice a4 parts.length c4, .string order, .bool down, .bool dist, .int .i64 limit] 26)
  have hb1 := heap_ext ((Ext.refl _).alloc (.cells #[.slice a3 vars.length c3, .slice a4 parts.length c4, .string order, .bool down, .bool dist, .int .i64 limit] 26)) (alloc_heap_new w (.cells #[.slice a1 vars.length c1, .slice a2 parts.length c2, .string order, .bool down, .bool dist, .int .i64 limit] 26))
  have hb2 := alloc_heap_new (w.alloc (.cells #[.slice a1 vars.length c1, .slice a2 parts.length c2, .string order, .bool down, .bool dist, .int .i64 limit] 26)) (.cells #[.slice a3 vars.length c3, .slice a4 parts.length c4, .string order, .bool down, .bool dist, .int .i64 limit] 26)
  rw [World.size_alloc] at hb2
  have o1 : (order.toList == order.toList) = true := by simp
  have o2 : (down == down) = true := by simp
  have o3 : (dist == dist) = true := by simp
  go_enter Try.func11, Try.ntmps11
  go_upto_region 1 with fail
  generalize hwa : World.alloc (World.alloc w _) _ = wa at hxb hb1 hb2 ⊢
  clear hwa
  have A1 := cells_at hb1
  have A2 := cells_at hb2
  go_upto_region 2 with (go_at_call 34; refine (HH.out.1 _ hxb).mono ?_; rintro e w1 ⟨rfl, hx1⟩; have B1 := cells_at (heap_ext hx1 hb1); have B2 := cells_at (heap_ext hx1 hb2))
  clear A1 A2
  go_upto_region 3 with (go_at_call 35; refine (HH.out.2 _ (hxb.trans hx1)).mono ?_; rintro e w2 ⟨rfl, hx2⟩; have D1 := cells_at (heap_ext (hx1.trans hx2) hb1); have D2 := cells_at (heap_ext (hx1.trans hx2) hb2))
  clear B1 B2
  go_wp2
  go_ret
  exact ⟨rfl, hxb.trans (hx1.trans hx2)⟩
end Go.Proofs.Ytmobdmljbbckiaa

