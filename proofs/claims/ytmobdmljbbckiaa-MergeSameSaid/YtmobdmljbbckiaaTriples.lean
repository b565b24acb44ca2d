/- The equality of sets. -/
import Derived.Test.YtmobdmljbbckiaaFuncsTr
import Derived.Test.YtmobdmljbbckiaaTrNeq
import Derived.Test.YtmobdmljbbckiaaRegion
namespace Go.Proofs.Ytmobdmljbbckiaa
open Go.RowKit
set_option maxHeartbeats 3200000
set_option maxRecDepth 100000

theorem triples_any (va vb : Value) (a b : List Tr) (w : World) (ha : Reads encTr w va a) (hb : Reads encTr w vb b) :
    Calls Try.prog 18 #[va, vb] w fun e w' => e = .returned (.bool (decide (a = b))) ∧ Ext w w' := by
  obtain ⟨aa, ca, rfl, hca, hma, hcla⟩ := ha
  obtain ⟨ab, cb, rfl, hcb, hmb, hclb⟩ := hb
  unfold maxLen at hma hmb
  by_cases hl : a.length = b.length
  · rw [← hl]
    have HL := Lib.hid hl
    clear hl
    go_enter Try.func18, Try.ntmps18
    go_wp2
    go_loopw [5] (fun jv wr => ∃ j : Nat, jv = .int .i64 j ∧ j ≤ a.length ∧ Hid (∀ i, i < j → a[i]? = b[i]?) ∧ Ext w wr) (fun jv _ => a.length - (intOf jv).toNat)
    case atStart => exact ⟨0, rfl, Nat.zero_le _, Lib.hid (fun i hi => absurd hi (Nat.not_lt_zero _)), Ext.refl _⟩
    case round =>
      obtain ⟨j, rfl, hj, hpre, hxr⟩ := hrel
      by_cases hlt : j < a.length
      · have hltb : j < b.length := by have := HL.out; omega
        obtain ⟨ba, oa, rfl, hc⟩ := hcla (fun h => by simp [h] at hlt)
        obtain ⟨bb, ob, rfl, hd⟩ := hclb (fun h => by simp [h] at hltb)
        obtain ⟨c0, c1, c2, c3, c4, c5, c6, c7, c8⟩ := Tr.cells hc hlt
        obtain ⟨d0, d1, d2, d3, d4, d5, d6, d7, d8⟩ := Tr.cells hd hltb
        have C0 := Later.cell (hxr.cell c0)
        have C1 := Later.cell (hxr.cell c1)
        have C2 := Later.cell (hxr.cell c2)
        have C3 := Later.cell (hxr.cell c3)
        have C4 := Later.cell (hxr.cell c4)
        have C5 := Later.cell (hxr.cell c5)
        have C6 := Later.cell (hxr.cell c6)
        have C7 := Later.cell (hxr.cell c7)
        have C8 := Later.cell (hxr.cell c8)
        have D0 := Later.cell (hxr.cell d0)
        have D1 := Later.cell (hxr.cell d1)
        have D2 := Later.cell (hxr.cell d2)
        have D3 := Later.cell (hxr.cell d3)
        have D4 := Later.cell (hxr.cell d4)
        have D5 := Later.cell (hxr.cell d5)
        have D6 := Later.cell (hxr.cell d6)
        have D7 := Later.cell (hxr.cell d7)
        have D8 := Later.cell (hxr.cell d8)
        have hga : a[j]? = some a[j] := List.getElem?_eq_getElem hlt
        have hgb : b[j]? = some b[j] := List.getElem?_eq_getElem hltb
        clear c0 c1 c2 c3 c4 c5 c6 c7 c8 d0 d1 d2 d3 d4 d5 d6 d7 d8 hc hd hcla hclb hcb hmb
        generalize a[j] = s at C0 C1 C2 C3 C4 C5 C6 C7 C8 hga
        generalize b[j] = t at D0 D1 D2 D3 D4 D5 D6 D7 D8 hgb
        obtain ⟨⟨k1, s1, g1⟩, ⟨k2, s2, g2⟩, ⟨k3, s3, g3⟩⟩ := s
        obtain ⟨⟨q1, r1, u1⟩, ⟨q2, r2, u2⟩, ⟨q3, r3, u3⟩⟩ := t
        dsimp only at *
        have HG := Lib.hid (And.intro hga hgb)
        clear hga hgb
        cases hq : trEq ⟨⟨k1, s1, g1⟩, ⟨k2, s2, g2⟩, ⟨k3, s3, g3⟩⟩ ⟨⟨q1, r1, u1⟩, ⟨q2, r2, u2⟩, ⟨q3, r3, u3⟩⟩ with
        | true =>
          go_upto_region 6 with fail
          refine wp_region_ext [0, 1, 2, 3, 4, 5, 6, 7, 8] [] (by kernel_rfl) (by kernel_rfl) ?_
          simp only [List.filterMap_cons, List.filterMap_nil, List.getElem?_cons_succ, List.getElem?_cons_zero]
          repeat (first | ((with_reducible refine wpFr_yes ?hw ?_); (case hw => rfl); intro K hK; go_simp; (first | (refine hK _ ?_; clear hK K) | (apply Exists.intro; refine ⟨fun x => ?_, hK _ ?_⟩; (fail); clear hK K))) | ((with_reducible refine wpFr_not ?hw ?_); (case hw => rfl); intro K hK; go_simp; (refine hK _ ?_; clear hK K)))
          refine wpFr_nil ?_
          refine wpTl_nil fun x hxx => ?_
          clear C0 C1 C2 C3 C4 C5 C6 C7 C8 D0 D1 D2 D3 D4 D5 D6 D7 D8
          have HQ := Lib.hid hq
          clear hq
          go_wp2
          go_roundw
          case rel =>
            refine ⟨j + 1, vi (by omega), hlt, Lib.hid (fun i hi => ?_), hxr.trans hxx⟩
            by_cases e : i = j
            · subst e
              rw [HG.out.1, HG.out.2]
              have := HQ.out
              simp only [trEq, decide_eq_true_eq] at this
              rw [this]
            · exact hpre.out i (by omega)
          case measure => simp [intOf]; omega
        | false =>
          go_upto_region 6 with fail
          refine wp_region_ext [0, 1, 2, 3, 4, 5, 6, 7, 8] [] (by kernel_rfl) (by kernel_rfl) ?_
          simp only [List.filterMap_cons, List.filterMap_nil, List.getElem?_cons_succ, List.getElem?_cons_zero]
          repeat (first | ((with_reducible refine wpFr_yes ?hw ?_); (case hw => rfl); intro K hK; go_simp; (first | (refine hK _ ?_; clear hK K) | (apply Exists.intro; refine ⟨fun x => ?_, hK _ ?_⟩; (fail); clear hK K))) | ((with_reducible refine wpFr_not ?hw ?_); (case hw => rfl); intro K hK; go_simp; (refine hK _ ?_; clear hK K)))
          refine wpFr_nil ?_
          refine wpTl_nil fun x hxx => ?_
          clear C0 C1 C2 C3 C4 C5 C6 C7 C8 D0 D1 D2 D3 D4 D5 D6 D7 D8
          have HQ := Lib.hid hq
          clear hq
          go_wp2
          go_ret
          refine ⟨?_, hxr.trans hxx⟩
          have hne : ¬ a = b := fun h => by
            have h1 := HG.out.1
            rw [h, HG.out.2] at h1
            have := HQ.out
            simp only [trEq, decide_eq_false_iff_not] at this
            exact this (Option.some.inj h1).symm
          simp [hne]
      · have hjl : j = a.length := by omega
        subst hjl
        clear hcla hclb
        go_wp2
        go_ret
        refine ⟨?_, hxr⟩
        have he : a = b := by
          apply List.ext_getElem?
          intro i
          by_cases hi : i < a.length
          · exact hpre.out i hi
          · rw [List.getElem?_eq_none (by omega), List.getElem?_eq_none (by have := HL.out; omega)]
        simp [he]
  · have hne : ¬ a = b := fun h => hl (by rw [h])
    have h1 : ((a.length : Int) == (b.length : Int)) = false := beq_eq_false_iff_ne.2 (by omega)
    have h2 : ((a.length : Int) != (b.length : Int)) = true := by simp [bne, h1]
    have h3 : ¬ ((a.length : Int) = (b.length : Int)) := by omega
    have HN := Lib.hid hne
    clear hne hcla hclb
    go_enter Try.func18, Try.ntmps18
    go_wp2
    go_ret
    exact ⟨by simp [HN.out], Ext.refl _⟩

end Go.Proofs.Ytmobdmljbbckiaa
