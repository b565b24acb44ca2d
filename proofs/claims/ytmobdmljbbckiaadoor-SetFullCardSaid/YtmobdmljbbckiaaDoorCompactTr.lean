/- slices.Compact at triples. -/
import Derived.Test.YtmobdmljbbckiaaDoorTrNeq
import Derived.Test.YtmobdmljbbckiaaDoorCmpPure
import Derived.Test.YtmobdmljbbckiaaDoorDeleteTr
namespace Go.Proofs.YtmobdmljbbckiaaDoor
open Go.RowKit
set_option maxHeartbeats 6400000
set_option maxRecDepth 100000

/-- the first so many, and one more -/
theorem compact_take (l : List Tr) (j : Nat) (hj : j + 1 < l.length) : compact (l.take (j + 1 + 1)) = if l[j]'(by omega) = l[j + 1] then compact (l.take (j + 1)) else compact (l.take (j + 1)) ++ [l[j + 1]] := by
  have h1 : l.take (j + 1) = l.take j ++ [l[j]'(by omega)] := List.take_succ_eq_append_getElem (by omega)
  have h2 : l.take (j + 1 + 1) = l.take (j + 1) ++ [l[j + 1]] := List.take_succ_eq_append_getElem hj
  rw [h2, h1, compact_snoc]
/-- where no two that stand together are the same nothing turns -/
theorem compact_same (l : List Tr) : ∀ k, k < l.length → (∀ i (h : i + 1 ≤ k) (h2 : i + 1 < l.length), l[i]'(by omega) ≠ l[i + 1]) → compact (l.take (k + 1)) = l.take (k + 1)
  | 0, hk, _ => by
    rw [List.take_succ_eq_append_getElem hk]; simp [compact]
  | k + 1, hk, h => by
    rw [compact_take l k hk, if_neg (h k (Nat.le_refl _) hk), compact_same l k (by omega) (fun i h1 h2 => h i (by omega) h2), List.take_succ_eq_append_getElem hk]


theorem compact_tr (v : Value) (l : List Tr) (w : World) (B : Nat) (hl : w.ownsRow B 28 9 v l.length (l.flatMap encTr)) (hB : B ≤ w.heap.size) (hn : l.length ≤ 100000) :
    Calls Tryd.prog 33 #[v] w fun e w' => ∃ v', e = .returned v' ∧ w'.ownsRow B 28 9 v' (compact l).length ((compact l).flatMap encTr) ∧ Below B w w' := by
  by_cases h2 : l.length < 2
  · have hc : compact l = l := by
      match l, h2 with
      | [], _ => rfl
      | [x], _ => rfl
    rw [hc]
    obtain ⟨a, cap, rfl⟩ : ∃ a cap, v = .slice a l.length cap := by
      obtain ⟨_, ⟨rfl, h0⟩ | ⟨g, cap, cur, rfl, _⟩⟩ := hl
      · exact ⟨none, 0, by rw [h0]⟩
      · exact ⟨_, cap, rfl⟩
    have HL := Lib.hid hl
    clear hl hc
    go_enter Tryd.func33, Tryd.ntmps33
    go_wp2
    go_ret
    exact ⟨_, rfl, HL.out, Below.refl _ _⟩
  · obtain ⟨gb, cap, rfl⟩ : ∃ gb cap, v = .slice (some ⟨gb, 0, none⟩) l.length cap := by
      obtain ⟨_, ⟨_, h0⟩ | ⟨g, cap, cur, rfl, _⟩⟩ := hl
      · omega
      · exact ⟨_, cap, rfl⟩
    have hcap : l.length ≤ cap ∧ cap ≤ maxLen := by
      obtain ⟨_, ⟨h, _⟩ | ⟨g, cap, cur, h, _, _, h1, h2, _⟩⟩ := hl
      · cases h
      · cases h; exact ⟨h1, h2⟩
    have hgB : B ≤ gb := (hl.lt gb rfl).1
    obtain ⟨hcap, hmax⟩ := hcap
    unfold maxLen at hmax
    have HL := Lib.hid hl
    clear hl
    go_enter Tryd.func33, Tryd.ntmps33
    go_wp2
    go_loopw [3] (fun kv wr => ∃ m : Nat, kv = .int .i64 ((m : Int) + 1) ∧ m + 1 ≤ l.length ∧ Hid (∀ i (h : i + 1 ≤ m) (h2 : i + 1 < l.length), l[i]'(by omega) ≠ l[i + 1]) ∧ Ext w wr) (fun kv _ => l.length - (intOf kv).toNat)
    case atStart => exact ⟨0, rfl, by omega, Lib.hid (fun i h => by omega), Ext.refl _⟩
    case round =>
      obtain ⟨m, rfl, hm, HI, hx⟩ := hrel
      have hown := own_ext HL.out hx
      by_cases hlt : m + 1 < l.length
      · have hrow : ∀ t u, (l.flatMap encTr)[t]? = some u → wr.cell? ⟨gb, 0 + t, none⟩ = some u := fun t u htu => by
          have hlt := (List.getElem?_eq_some_iff.1 htu).1
          rw [Nat.zero_add, hown.cellAt t (by rw [flat_len encTr_len] at hlt; exact hlt), htu]
        obtain ⟨d0, d1, d2, d3, d4, d5, d6, d7, d8⟩ := Tr.cells hrow (k := m + 1) hlt
        obtain ⟨e0, e1, e2, e3, e4, e5, e6, e7, e8⟩ := Tr.cells hrow (k := m) (by omega)
        simp only [Nat.zero_add] at d0 d1 d2 d3 d4 d5 d6 d7 d8 e0 e1 e2 e3 e4 e5 e6 e7 e8
        replace d0 := Later.cell d0
        replace d1 := Later.cell d1
        replace d2 := Later.cell d2
        replace d3 := Later.cell d3
        replace d4 := Later.cell d4
        replace d5 := Later.cell d5
        replace d6 := Later.cell d6
        replace d7 := Later.cell d7
        replace d8 := Later.cell d8
        replace e0 := Later.cell e0
        replace e1 := Later.cell e1
        replace e2 := Later.cell e2
        replace e3 := Later.cell e3
        replace e4 := Later.cell e4
        replace e5 := Later.cell e5
        replace e6 := Later.cell e6
        replace e7 := Later.cell e7
        replace e8 := Later.cell e8
        have hne : l[m]'(by omega) ≠ l[m + 1] → ∀ i (h : i + 1 ≤ m + 1) (h2 : i + 1 < l.length), l[i]'(by omega) ≠ l[i + 1] := fun h i h1 h2 => by
          by_cases e : i = m
          · subst e; exact h
          · exact HI.out i (by omega) h2
        have hst : l[m]'(by omega) = l[m + 1] → compact (l.take (m + 1 + 1)) = l.take (m + 1) := fun h => by
          rw [compact_take l m hlt, if_pos h, compact_same l m (by omega) HI.out]
        have HO := Lib.hid (And.intro hown (And.intro hne hst))
        have hwr : IntKind.i64.wrap (m : Int) = m := IntWalk.i64_in _ (by omega)
        have hb3 : m < l.length := by omega
        have hb1 : (0 : Int) ≤ (m : Int) + 1 := by omega
        have hb2 : (m : Int) + 1 < (l.length : Int) := by omega
        have ht1 : ((m : Int) + 1).toNat = m + 1 := by omega
        clear hrow hne hst hown
        generalize hy1 : l[m + 1] = y at d0 d1 d2 d3 d4 d5 d6 d7 d8 HO
        generalize hy2 : l[m]'(by omega) = y2 at e0 e1 e2 e3 e4 e5 e6 e7 e8 HO
        have HY := Lib.hid (And.intro hy1 hy2)
        clear hy1 hy2
        obtain ⟨⟨k1, s1, g1⟩, ⟨k2, s2, g2⟩, ⟨k3, s3, g3⟩⟩ := y
        obtain ⟨⟨q1, r1, u1⟩, ⟨q2, r2, u2⟩, ⟨q3, r3, u3⟩⟩ := y2
        dsimp only at d0 d1 d2 d3 d4 d5 d6 d7 d8 e0 e1 e2 e3 e4 e5 e6 e7 e8
        cases hq : trEq ⟨⟨k1, s1, g1⟩, ⟨k2, s2, g2⟩, ⟨k3, s3, g3⟩⟩ ⟨⟨q1, r1, u1⟩, ⟨q2, r2, u2⟩, ⟨q3, r3, u3⟩⟩ with
        | false =>
          go_upto_region 6 with fail
          refine wp_region_ext [0, 1, 2, 3, 4, 5, 6, 7, 8, 9] [] (by kernel_rfl) (by kernel_rfl) ?_
          simp only [List.filterMap_cons, List.filterMap_nil, List.getElem?_cons_succ, List.getElem?_cons_zero]
          repeat (first | ((with_reducible refine wpFr_yes ?hw ?_); (case hw => rfl); intro K hK; go_simp; (first | (refine hK _ ?_; clear hK K) | (apply Exists.intro; refine ⟨fun x => ?_, hK _ ?_⟩; (fail); clear hK K))) | ((with_reducible refine wpFr_not ?hw ?_); (case hw => rfl); intro K hK; go_simp; (refine hK _ ?_; clear hK K)))
          refine wpFr_nil ?_
          refine wpTl_nil fun x hxx => ?_
          clear d0 d1 d2 d3 d4 d5 d6 d7 d8 e0 e1 e2 e3 e4 e5 e6 e7 e8 hwr ht1
          go_wp2
          go_roundw
          case rel => exact ⟨m + 1, vi (by omega), by omega, Lib.hid (HO.out.2.1 fun h => (trEq_not _ _).1 hq h.symm), hx.trans hxx⟩
          case measure => simp [intOf]; omega
        | true =>
          have hst := HO.out.2.2 ((trEq_iff _ _).1 hq).symm
          have HST := Lib.hid hst
          clear hst
          go_upto_region 6 with fail
          refine wp_region_ext [0, 1, 2, 3, 4, 5, 6, 7, 8, 9] [] (by kernel_rfl) (by kernel_rfl) ?_
          simp only [List.filterMap_cons, List.filterMap_nil, List.getElem?_cons_succ, List.getElem?_cons_zero]
          repeat (first | ((with_reducible refine wpFr_yes ?hw ?_); (case hw => rfl); intro K hK; go_simp; (first | (refine hK _ ?_; clear hK K) | (apply Exists.intro; refine ⟨fun x => ?_, hK _ ?_⟩; (fail); clear hK K))) | ((with_reducible refine wpFr_not ?hw ?_); (case hw => rfl); intro K hK; go_simp; (refine hK _ ?_; clear hK K)))
          refine wpFr_nil ?_
          refine wpTl_nil fun x hxx => ?_
          clear d0 d1 d2 d3 d4 d5 d6 d7 d8 e0 e1 e2 e3 e4 e5 e6 e7 e8 hwr ht1 hq
          go_wp2
          obtain ⟨n2, hn2⟩ : ∃ n2, n2 = l.length - (m + 1) := ⟨_, rfl⟩
          obtain ⟨c2, hc2⟩ : ∃ c2, c2 = cap - (m + 1) := ⟨_, rfl⟩
          rw [← hn2, ← hc2]
          have hn2a : n2 + (m + 1) ≤ l.length := by omega
          have hn2b : l.length ≤ n2 + (m + 1) := by omega
          have hc2a : n2 ≤ c2 := by omega
          have hc2b : c2 ≤ 9223372036854775807 := by omega
          clear hn2 hc2
          have HZ := Lib.hid (And.intro HST.out (own_ext HO.out.1 hxx))
          have hbx : Below B w x := (hx.trans hxx).mono hB
          clear HST HO HI hx hxx HY
          go_loopw [3, 5] (fun s3 s5 wq => ∃ (i p : Nat) (ys : List Tr), s3 = .int .i64 i ∧ s5 = .int .i64 ((p : Int) + 1) ∧ i < m + p + 2 ∧ m + p + 2 ≤ l.length ∧ Hid (ys.length = l.length ∧ ys.take i = compact (l.take (m + p + 2)) ∧ ys.drop (m + p + 1) = l.drop (m + p + 1) ∧
              wq.ownsRow B 28 9 (.slice (some ⟨gb, 0, none⟩) l.length cap) l.length (ys.flatMap encTr)) ∧ Below B w wq) (fun _ s5 _ => n2 - (intOf s5).toNat)
          case atStart => exact ⟨m + 1, 0, l, vi (by omega), rfl, by omega, by omega, Lib.hid ⟨rfl, by rw [← HZ.out.1], rfl, HZ.out.2⟩, hbx⟩
          case round =>
            obtain ⟨i, p, ys, rfl, rfl, hij, hjn, HQ, hbw⟩ := hrel
            clear HZ hbx
            have hBw : B ≤ wr.heap.size := Nat.le_trans hB hbw.size
            have hown := HQ.out.2.2.2
            have hy1 := HQ.out.1
            by_cases hlt2 : p + 1 < n2
            · have hrow : ∀ t u, (ys.flatMap encTr)[t]? = some u → wr.cell? ⟨gb, 0 + t, none⟩ = some u := fun t u htu => by
                have hlt := (List.getElem?_eq_some_iff.1 htu).1
                rw [Nat.zero_add, hown.cellAt t (by rw [flat_len encTr_len, hy1] at hlt; exact hlt), htu]
              have hdr := HQ.out.2.2.1
              have hya : ys[m + p + 1]'(by omega) = l[m + p + 1] := by
                have := congrArg (fun t : List Tr => t[0]?) hdr
                simpa [List.getElem?_drop, List.getElem?_eq_getElem, show m + p + 1 < l.length by omega, hy1] using this
              have hyb : ys[m + p + 2]'(by omega) = l[m + p + 2]'(by omega) := by
                have := congrArg (fun t : List Tr => t[1]?) hdr
                simpa [List.getElem?_drop, List.getElem?_eq_getElem, show m + p + 1 + 1 < l.length by omega, hy1] using this
              obtain ⟨d0, d1, d2, d3, d4, d5, d6, d7, d8⟩ := Tr.cells hrow (k := m + p + 2) (by omega)
              obtain ⟨e0, e1, e2, e3, e4, e5, e6, e7, e8⟩ := Tr.cells hrow (k := m + p + 1) (by omega)
              obtain ⟨f0, f1, f2, f3, f4, f5, f6, f7, f8⟩ := Tr.cells hrow (k := i) (by omega)
              rw [hyb, show 0 + (m + p + 2) * 9 = (m + 1) * 9 + (p + 1) * 9 by omega] at d0 d1 d2 d3 d4 d5 d6 d7 d8
              rw [hya, show 0 + (m + p + 1) * 9 = (m + 1) * 9 + p * 9 by omega] at e0 e1 e2 e3 e4 e5 e6 e7 e8
              simp only [Nat.zero_add] at f0 f1 f2 f3 f4 f5 f6 f7 f8
              have hdd : ys.drop (m + p + 2) = l.drop (m + p + 2) := by
                have := congrArg (fun t : List Tr => t.drop 1) hdr
                simpa [List.drop_drop] using this
              have hct := compact_take l (m + p + 1) (by omega)
              generalize ys[i]'(by omega) = old at f0 f1 f2 f3 f4 f5 f6 f7 f8
              have HF := Lib.hid (And.intro f0 (And.intro f1 (And.intro f2 (And.intro f3 (And.intro f4 (And.intro f5 (And.intro f6 (And.intro f7 f8))))))))
              have HG := Lib.hid (And.intro d0 (And.intro d1 (And.intro d2 (And.intro d3 (And.intro d4 (And.intro d5 (And.intro d6 (And.intro d7 d8))))))))
              clear f0 f1 f2 f3 f4 f5 f6 f7 f8 hrow hdr hya hyb
              have HCT := Lib.hid (And.intro hct (And.intro hdd hown))
              clear hct hdd hown
              change Hid ((compact (l.take (m + p + 3)) = if l[m + p + 1]'(by omega) = l[m + p + 2]'(by omega) then compact (l.take (m + p + 2)) else compact (l.take (m + p + 2)) ++ [l[m + p + 2]'(by omega)]) ∧ _) at HCT
              replace d0 := Later.cell d0
              replace d1 := Later.cell d1
              replace d2 := Later.cell d2
              replace d3 := Later.cell d3
              replace d4 := Later.cell d4
              replace d5 := Later.cell d5
              replace d6 := Later.cell d6
              replace d7 := Later.cell d7
              replace d8 := Later.cell d8
              replace e0 := Later.cell e0
              replace e1 := Later.cell e1
              replace e2 := Later.cell e2
              replace e3 := Later.cell e3
              replace e4 := Later.cell e4
              replace e5 := Later.cell e5
              replace e6 := Later.cell e6
              replace e7 := Later.cell e7
              replace e8 := Later.cell e8
              have hb4 : p < n2 := by omega
              have hb5 : (0 : Int) ≤ (p : Int) + 1 := by omega
              have hb6 : (p : Int) + 1 < (n2 : Int) := by omega
              have hb7 : i < l.length := by omega
              have ht2 : ((p : Int) + 1).toNat = p + 1 := by omega
              have hw2 : IntKind.i64.wrap (p : Int) = p := IntWalk.i64_in _ (by omega)
              generalize l[m + p + 2]'(by omega) = y at d0 d1 d2 d3 d4 d5 d6 d7 d8 HCT HG
              generalize l[m + p + 1]'(by omega) = y2 at e0 e1 e2 e3 e4 e5 e6 e7 e8 HCT
              obtain ⟨⟨k1, s1, g1⟩, ⟨k2, s2, g2⟩, ⟨k3, s3, g3⟩⟩ := y
              obtain ⟨⟨q1, r1, u1⟩, ⟨q2, r2, u2⟩, ⟨q3, r3, u3⟩⟩ := y2
              dsimp only at d0 d1 d2 d3 d4 d5 d6 d7 d8 e0 e1 e2 e3 e4 e5 e6 e7 e8
              cases hq : trEq ⟨⟨k1, s1, g1⟩, ⟨k2, s2, g2⟩, ⟨k3, s3, g3⟩⟩ ⟨⟨q1, r1, u1⟩, ⟨q2, r2, u2⟩, ⟨q3, r3, u3⟩⟩ with
              | true =>
                have hqe := (trEq_iff _ _).1 hq
                have HQE := Lib.hid hqe
                clear hqe
                go_upto_region 11 with fail
                refine wp_region_ext [0, 1, 2, 3, 4, 5, 6, 7, 8, 9] [] (by kernel_rfl) (by kernel_rfl) ?_
                simp only [List.filterMap_cons, List.filterMap_nil, List.getElem?_cons_succ, List.getElem?_cons_zero]
                repeat (first | ((with_reducible refine wpFr_yes ?hw ?_); (case hw => rfl); intro K hK; go_simp; (first | (refine hK _ ?_; clear hK K) | (apply Exists.intro; refine ⟨fun x => ?_, hK _ ?_⟩; (fail); clear hK K))) | ((with_reducible refine wpFr_not ?hw ?_); (case hw => rfl); intro K hK; go_simp; (refine hK _ ?_; clear hK K)))
                refine wpFr_nil ?_
                refine wpTl_nil fun x hxx => ?_
                clear d0 d1 d2 d3 d4 d5 d6 d7 d8 e0 e1 e2 e3 e4 e5 e6 e7 e8 hw2 ht2 hq
                go_wp2
                go_roundw
                case rel => exact ⟨i, p + 1, ys, rfl, vi (by omega), by omega, by omega, Lib.hid ⟨HQ.out.1, by rw [show m + (p + 1) + 2 = m + p + 3 by omega, HCT.out.1, if_pos HQE.out.symm]; exact HQ.out.2.1, HCT.out.2.1, own_ext HCT.out.2.2 hxx⟩, Below.ext hbw hxx hBw⟩
                case measure => simp [intOf]; omega
              | false =>
                have hqe := (trEq_not _ _).1 hq
                have HQE := Lib.hid hqe
                clear hqe
                go_upto_region 11 with fail
                refine wp_region_ext [0, 1, 2, 3, 4, 5, 6, 7, 8, 9] [] (by kernel_rfl) (by kernel_rfl) ?_
                simp only [List.filterMap_cons, List.filterMap_nil, List.getElem?_cons_succ, List.getElem?_cons_zero]
                repeat (first | ((with_reducible refine wpFr_yes ?hw ?_); (case hw => rfl); intro K hK; go_simp; (first | (refine hK _ ?_; clear hK K) | (apply Exists.intro; refine ⟨fun x => ?_, hK _ ?_⟩; (fail); clear hK K))) | ((with_reducible refine wpFr_not ?hw ?_); (case hw => rfl); intro K hK; go_simp; (refine hK _ ?_; clear hK K)))
                refine wpFr_nil ?_
                refine wpTl_nil fun x hxx => ?_
                clear d0 d1 d2 d3 d4 d5 d6 d7 d8 e0 e1 e2 e3 e4 e5 e6 e7 e8 hw2 hq
                have hown2 := own_ext HCT.out.2.2 hxx
                have fz : ∀ t, x.frozen? ⟨gb, t, none⟩ = false := fun t => hown2.frozenAt t
                obtain ⟨f0, f1, f2, f3, f4, f5, f6, f7, f8⟩ := HF.out
                obtain ⟨d0, d1, d2, d3, d4, d5, d6, d7, d8⟩ := HG.out
                dsimp only at d0 d1 d2 d3 d4 d5 d6 d7 d8
                replace f0 := hxx.cell f0
                replace f1 := hxx.cell f1
                replace f2 := hxx.cell f2
                replace f3 := hxx.cell f3
                replace f4 := hxx.cell f4
                replace f5 := hxx.cell f5
                replace f6 := hxx.cell f6
                replace f7 := hxx.cell f7
                replace f8 := hxx.cell f8
                replace d0 := hxx.cell d0
                replace d1 := hxx.cell d1
                replace d2 := hxx.cell d2
                replace d3 := hxx.cell d3
                replace d4 := hxx.cell d4
                replace d5 := hxx.cell d5
                replace d6 := hxx.cell d6
                replace d7 := hxx.cell d7
                replace d8 := hxx.cell d8
                have HW := Lib.hid hown2
                have HX := Lib.hid (Below.ext hbw hxx hBw)
                clear hown2 HF HG
                go_wp2
                clear ht2
                go_roundw
                case rel =>
                  refine ⟨i + 1, p + 1, ys.set i ⟨⟨k1, s1, g1⟩, ⟨k2, s2, g2⟩, ⟨k3, s3, g3⟩⟩, vi (by omega), vi (by omega), by omega, by omega, Lib.hid ⟨by simpa using HQ.out.1, ?_, ?_, ?_⟩, ?_⟩
                  · have hil : i < ys.length := by rw [HQ.out.1]; omega
                    rw [show m + (p + 1) + 2 = m + p + 3 by omega, HCT.out.1, if_neg (Ne.symm HQE.out), ← HQ.out.2.1, List.take_succ_eq_append_getElem (by simpa using hil)]
                    simp [List.take_set_of_le]
                  · rw [show m + (p + 1) + 1 = m + p + 2 by omega, List.drop_set_of_lt (by omega)]; exact HCT.out.2.1
                  · have := own_setCells (encTr ⟨⟨k1, s1, g1⟩, ⟨k2, s2, g2⟩, ⟨k3, s3, g3⟩⟩) (i * 9) _ _ HW.out
                    rw [flat_set encTr_len _ _ (by rw [HQ.out.1]; omega)] at this
                    exact this
                  · exact below_setCells hgB (encTr ⟨⟨k1, s1, g1⟩, ⟨k2, s2, g2⟩, ⟨k3, s3, g3⟩⟩) (i * 9) _ HX.out
                case measure => simp [intOf]; omega
            · have hjl : m + p + 2 = l.length := by omega
              have hilt : i < l.length := by omega
              have hclr : ∀ ty, (Builtin.clear_ #[22] ty #[.slice (some ⟨gb, i * 9, none⟩) (l.length - i) (cap - i)]).run Tryd.prog wr = .ok (.tuple #[]) (wr.setCells gb (i * 9) (Builtin.zeroCells (vTr default).cells (l.length - i)).toList) :=
                fun ty => run_clear_tr wr ty gb (i * 9) _ _ (by omega) (fun t ht => by rw [hown.cellAt (i * 9 + t) (by omega), List.getElem?_eq_getElem (by rw [flat_len encTr_len, hy1]; omega)]; rfl) (fun t ht => hown.frozenAt _)
              have hff : ys.take i = compact l := by have := HQ.out.2.1; rwa [hjl, List.take_length] at this
              have hlenf : (compact l).length = i := by rw [← hff, List.length_take, HQ.out.1]; omega
              have HH := Lib.hid (And.intro hff (And.intro hlenf hown))
              clear hff hlenf hown hy1 hjl
              go_wp2
              go_ret
              refine ⟨_, rfl, ?_, below_setCells hgB _ _ _ hbw⟩
              have := own_setCells_past (Builtin.zeroCells (vTr default).cells (l.length - i)).toList (i * 9) wr (own_cut HH.out.2.2 (show i ≤ l.length by omega) (by simp)) (by omega)
              rw [HH.out.2.1, ← HH.out.1, flat_take encTr_len]
              exact this
      · have hjl : m + 1 = l.length := by omega
        have hcs := compact_same l m (by omega) HI.out
        rw [hjl, List.take_length] at hcs
        have HF := Lib.hid (And.intro hown hcs)
        clear hown hcs
        go_wp2
        go_ret
        exact ⟨_, rfl, by rw [HF.out.2]; exact HF.out.1, hx.mono hB⟩
end Go.Proofs.YtmobdmljbbckiaaDoor
