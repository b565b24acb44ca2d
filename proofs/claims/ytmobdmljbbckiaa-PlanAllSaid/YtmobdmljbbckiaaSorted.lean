/- What triple.Sorted does to the world. -/
import Derived.Test.YtmobdmljbbckiaaTripleCheck
namespace Go.Proofs.Ytmobdmljbbckiaa
open Go.RowKit
set_option maxHeartbeats 3200000
set_option maxRecDepth 100000

theorem sorted_any (v : Value) (l : List Tr) (w : World) (hl : Reads encTr w v l) : Calls Try.prog 17 #[v] w fun e w' => e = .returned (errV (setErr l)) ∧ Ext w w' := by
  obtain ⟨a, cap, rfl, hcap, hmax, hcells⟩ := hl
  unfold maxLen at hmax
  by_cases h200 : 200 < l.length
  · have he : setErr l = some 4 := by simp [setErr, h200]
    go_enter Try.func17, Try.ntmps17
    go_wp2
    go_ret
    exact ⟨by rw [he]; rfl, Ext.refl _⟩
  have he : setErr l = firstErr (setErrAt l) l.length := by simp [setErr, h200]
  have HE := Lib.hid he
  clear he
  go_enter Try.func17, Try.ntmps17
  go_wp2
  go_loopw [12] (fun jv wr => ∃ j : Nat, jv = .int .i64 j ∧ j ≤ l.length ∧ Hid (∀ i, i < j → setErrAt l i = none) ∧ Ext w wr) (fun jv _ => l.length - (intOf jv).toNat)
  case atStart => exact ⟨0, rfl, Nat.zero_le _, fun i hi => absurd hi (Nat.not_lt_zero _), Ext.refl _⟩
  case round =>
    obtain ⟨j, rfl, hj, hb, hx⟩ := hrel
    by_cases hlt : j < l.length
    · obtain ⟨b, off, rfl, hc⟩ := hcells (fun h => by simp [h] at hlt)
      have hat : setErrAt l j = (trErr l[j]).or (if 0 < j ∧ 0 ≤ cmpTr (l.getD (j - 1) default) l[j] then some 6 else none) := by simp only [setErrAt, getD_at hlt]
      obtain ⟨c0, c1, c2, c3, c4, c5, c6, c7, c8⟩ := Tr.cells hc hlt
      have d0 := hx.cell c0
      have d1 := hx.cell c1
      have d2 := hx.cell c2
      have d3 := hx.cell c3
      have d4 := hx.cell c4
      have d5 := hx.cell c5
      have d6 := hx.cell c6
      have d7 := hx.cell c7
      have d8 := hx.cell c8
      have hcc := Lib.hid hc
      clear c0 c1 c2 c3 c4 c5 c6 c7 c8 hc hcells
      generalize l[j] = t at d0 d1 d2 d3 d4 d5 d6 d7 d8 hat
      obtain ⟨⟨k1, s1, l1⟩, ⟨k2, s2, l2⟩, ⟨k3, s3, l3⟩⟩ := t
      dsimp only at *
      cases hT : trErr ⟨⟨k1, s1, l1⟩, ⟨k2, s2, l2⟩, ⟨k3, s3, l3⟩⟩ with
      | some n =>
        have hcall : ∀ W, Calls Try.prog 50 #[vTr ⟨⟨k1, s1, l1⟩, ⟨k2, s2, l2⟩, ⟨k3, s3, l3⟩⟩] W fun e w' => e = .returned (eV n) ∧ Ext W w' := fun W => by
          have := tripleCheck_any ⟨⟨k1, s1, l1⟩, ⟨k2, s2, l2⟩, ⟨k3, s3, l3⟩⟩ W; rw [hT] at this; exact this
        have hfin := firstErr_hit (f := setErrAt l) (k := j) (e := n) (by rw [hat, hT]; rfl) hb.out hlt
        have HC := Lib.hid (And.intro hcall hfin)
        clear hcall hfin hT hat
        go_wp2_with (go_at_call 50; refine (HC.out.1 _).mono ?_; rintro e w1 ⟨rfl, hx2⟩)
        go_ret
        exact ⟨by rw [HE.out, HC.out.2]; rfl, (hx.alloc _).trans hx2⟩
      | none =>
        have hcall : ∀ W, Calls Try.prog 50 #[vTr ⟨⟨k1, s1, l1⟩, ⟨k2, s2, l2⟩, ⟨k3, s3, l3⟩⟩] W fun e w' => e = .returned .nilIface ∧ Ext W w' := fun W => by
          have := tripleCheck_any ⟨⟨k1, s1, l1⟩, ⟨k2, s2, l2⟩, ⟨k3, s3, l3⟩⟩ W; rw [hT] at this; exact this
        rw [hT] at hat
        have HC := Lib.hid (And.intro hcall hat)
        clear hcall hat hT
        go_upto_region 9 with (go_at_call 50; refine (HC.out.1 _).mono ?_; rintro e w1 ⟨rfl, hx2⟩)
        have hw1 : Ext w w1 := (hx.alloc _).trans hx2
        have hbx := heap_ext hx2 (alloc_heap_new wr (.cells #[.int .i64 k1, .string s1, .string l1, .int .i64 k2, .string s2, .string l2, .int .i64 k3, .string s3, .string l3] 82))
        have A := Later.cells hbx
        clear d0 d1 d2 d3 d4 d5 d6 d7 d8 hbx
        cases j with
        | zero =>
          have hfin : setErrAt l 0 = none := by rw [HC.out.2]; rfl
          have HF := Lib.hid hfin
          clear hfin
          refine wp_region_ext [0, 1, 2, 3, 4, 5, 6, 7, 8, 9, 10, 11] [] (by kernel_rfl) (by kernel_rfl) ?_
          simp only [List.filterMap_cons, List.filterMap_nil, List.getElem?_cons_succ, List.getElem?_cons_zero]
          repeat (first | ((with_reducible refine wpFr_yes ?hw ?_); (case hw => rfl); intro K hK; go_simp; (first | (refine hK _ ?_; clear hK K) | (apply Exists.intro; refine ⟨fun x => ?_, hK _ ?_⟩; (fail); clear hK K))) | ((with_reducible refine wpFr_not ?hw ?_); (case hw => rfl); intro K hK; go_simp; (refine hK _ ?_; clear hK K)))
          refine wpFr_nil ?_
          refine wpTl_nil fun x hxx => ?_
          go_wp2
          go_roundw
          case rel =>
            refine ⟨1, vi (by omega), by omega, (fun i hi => ?_), hw1.trans hxx⟩
            obtain rfl : i = 0 := by omega
            exact HF.out
          case measure => simp [intOf]; omega
        | succ m =>
          have hm : m < l.length := by omega
          have hgd : l.getD (m + 1 - 1) default = l[m] := by simp [List.getD, hm]
          have hat := HC.out.2
          rw [hgd] at hat
          obtain ⟨c0, c1, c2, c3, c4, c5, c6, c7, c8⟩ := Tr.cells hcc.out hm
          have d0 := Later.cell (hw1.cell c0)
          have d1 := Later.cell (hw1.cell c1)
          have d2 := Later.cell (hw1.cell c2)
          have d3 := Later.cell (hw1.cell c3)
          have d4 := Later.cell (hw1.cell c4)
          have d5 := Later.cell (hw1.cell c5)
          have d6 := Later.cell (hw1.cell c6)
          have d7 := Later.cell (hw1.cell c7)
          have d8 := Later.cell (hw1.cell c8)
          clear c0 c1 c2 c3 c4 c5 c6 c7 c8 hgd
          generalize l[m] = p at d0 d1 d2 d3 d4 d5 d6 d7 d8 hat
          obtain ⟨⟨q1, r1, u1⟩, ⟨q2, r2, u2⟩, ⟨q3, r3, u3⟩⟩ := p
          dsimp only at *
          have hcmp := fun W => tripleCompare_any ⟨⟨q1, r1, u1⟩, ⟨q2, r2, u2⟩, ⟨q3, r3, u3⟩⟩ ⟨⟨k1, s1, l1⟩, ⟨k2, s2, l2⟩, ⟨k3, s3, l3⟩⟩ W
          generalize cmpTr ⟨⟨q1, r1, u1⟩, ⟨q2, r2, u2⟩, ⟨q3, r3, u3⟩⟩ ⟨⟨k1, s1, l1⟩, ⟨k2, s2, l2⟩, ⟨k3, s3, l3⟩⟩ = c at hat hcmp
          have HM := Lib.hid (And.intro hcmp hat)
          clear hcmp hat
          by_cases hc0 : 0 ≤ c
          · have hfin := firstErr_hit (f := setErrAt l) (k := m + 1) (e := 6) (by rw [HM.out.2, if_pos ⟨by omega, hc0⟩]; rfl) hb.out hlt
            have HF := Lib.hid hfin
            clear hfin
            have hwr : IntKind.i64.wrap (m : Int) = m := IntWalk.i64_in _ (by omega)
            refine wp_region_ext [0, 1, 2, 3, 4, 5, 6, 7, 8, 9, 10, 11] [] (by kernel_rfl) (by kernel_rfl) ?_
            simp only [List.filterMap_cons, List.filterMap_nil, List.getElem?_cons_succ, List.getElem?_cons_zero]
            repeat (first | ((with_reducible refine wpFr_yes ?hw ?_); (case hw => rfl); intro K hK; go_simp; (first | (refine hK _ ?_; clear hK K) | (apply Exists.intro; refine ⟨fun x => ?_, hK _ ?_⟩; ((go_at_call 51; exact HM.out.1 _)); clear hK K))) | ((with_reducible refine wpFr_not ?hw ?_); (case hw => rfl); intro K hK; go_simp; (refine hK _ ?_; clear hK K)))
            refine wpFr_nil ?_
            clear hwr
            refine wpTl_nil fun x hxx => ?_
            go_wp2
            go_ret
            exact ⟨by rw [HE.out, HF.out]; rfl, hw1.trans hxx⟩
          · have hfin : setErrAt l (m + 1) = none := by rw [HM.out.2, if_neg (fun h => hc0 h.2)]; rfl
            have HF := Lib.hid hfin
            clear hfin
            have hwr : IntKind.i64.wrap (m : Int) = m := IntWalk.i64_in _ (by omega)
            refine wp_region_ext [0, 1, 2, 3, 4, 5, 6, 7, 8, 9, 10, 11] [] (by kernel_rfl) (by kernel_rfl) ?_
            simp only [List.filterMap_cons, List.filterMap_nil, List.getElem?_cons_succ, List.getElem?_cons_zero]
            repeat (first | ((with_reducible refine wpFr_yes ?hw ?_); (case hw => rfl); intro K hK; go_simp; (first | (refine hK _ ?_; clear hK K) | (apply Exists.intro; refine ⟨fun x => ?_, hK _ ?_⟩; ((go_at_call 51; exact HM.out.1 _)); clear hK K))) | ((with_reducible refine wpFr_not ?hw ?_); (case hw => rfl); intro K hK; go_simp; (refine hK _ ?_; clear hK K)))
            refine wpFr_nil ?_
            clear hwr
            refine wpTl_nil fun x hxx => ?_
            go_wp2
            go_roundw
            case rel =>
              refine ⟨m + 1 + 1, vi (by omega), by omega, (fun i hi => ?_), hw1.trans hxx⟩
              by_cases e : i = m + 1
              · subst e; exact HF.out
              · exact hb.out i (by omega)
            case measure => simp [intOf]; omega
    · have hjl : j = l.length := by omega
      subst hjl
      clear hcells
      go_wp2
      go_ret
      exact ⟨by rw [HE.out, firstErr_miss hb.out]; rfl, hx⟩

end Go.Proofs.Ytmobdmljbbckiaa
