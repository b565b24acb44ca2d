/- What the functions of packages cmp, strings, term and triple do to the world, each by its contract. -/
import Derived.Test.YtmobdmljbbckiaaFuncs
import Derived.Test.YtmobdmljbbckiaaErrs
import Derived.Test.YtmobdmljbbckiaaRegion
import Derived.Test.YtmobdmljbbckiaaTermPure
namespace Go.Proofs.Ytmobdmljbbckiaa
open Go.RowKit
set_option maxHeartbeats 1600000
set_option maxRecDepth 100000

set_option maxHeartbeats 800000 in
theorem compareString_any (a b : ByteArray) (w : World) : Calls Try.prog 82 #[.string a, .string b] w fun e w' => e = .returned (.int .i64 (cmpS a b)) ∧ w = w' := by
  go_enter Try.func82, Try.ntmps82
  go_wp2
  rw [run_callFunc_extern Try.func100 (by kernel_rfl) (by kernel_rfl) (by kernel_rfl) (e := Extern.BytealgCompare.compare) (by kernel_rfl), Lib.run_compareString]
  simp only [Result.andThen]
  rw [Oper.upon_value]
  go_wp2
  go_ret
  exact ⟨rfl, rfl⟩

theorem stringsCompare_any (a b : ByteArray) (w : World) : Calls Try.prog 42 #[.string a, .string b] w fun e w' => e = .returned (.int .i64 (cmpS a b)) ∧ w = w' := by
  go_enter Try.func42, Try.ntmps42
  go_wp2_with (go_at_call 82; refine (compareString_any _ _ _).mono ?_; rintro e w' ⟨rfl, rfl⟩)
  go_ret
  exact ⟨rfl, rfl⟩

theorem isNaN_int (a : Int) (w : World) : Calls Try.prog 64 #[.int .i64 a] w fun e w' => e = .returned (.bool false) ∧ w = w' := by
  go_enter Try.func64, Try.ntmps64
  go_wp2
  go_ret
  exact ⟨by simp, rfl⟩

theorem cmpCompare_int (a b : Int) (w : World) : Calls Try.prog 27 #[.int .i64 a, .int .i64 b] w fun e w' => e = .returned (.int .i64 (cmpI a b)) ∧ w = w' := by
  by_cases h1 : a < b
  · go_enter Try.func27, Try.ntmps27
    go_wp2_with (go_at_call 64; refine (isNaN_int _ _).mono ?_; rintro e w' ⟨rfl, rfl⟩)
    go_ret
    exact ⟨by simp [cmpI, h1], rfl⟩
  · by_cases h2 : b < a
    · go_enter Try.func27, Try.ntmps27
      go_wp2_with (go_at_call 64; refine (isNaN_int _ _).mono ?_; rintro e w' ⟨rfl, rfl⟩)
      go_ret
      exact ⟨by simp [cmpI, show ¬ a < b by omega, h2], rfl⟩
    · go_enter Try.func27, Try.ntmps27
      go_wp2_with (go_at_call 64; refine (isNaN_int _ _).mono ?_; rintro e w' ⟨rfl, rfl⟩)
      go_ret
      exact ⟨by simp [cmpI, show ¬ a < b by omega, show ¬ b < a by omega], rfl⟩

set_option maxHeartbeats 800000 in
theorem cmpOr_int (v : Value) (l : List Int) (w : World) (hl : Reads encI w v l) :
    Calls Try.prog 26 #[v] w fun e w' => e = .returned (.int .i64 (orI l)) ∧ w = w' := by
  obtain ⟨a, cap, rfl, hcap, hmax, hcells⟩ := hl
  unfold maxLen at hmax
  go_enter Try.func26, Try.ntmps26
  go_wp2
  go_loop [8] (fun jv => ∃ j : Nat, jv = .int .i64 j ∧ j ≤ l.length ∧ Hid (∀ i (hi : i < j) (hl : i < l.length), l[i] = 0)) (fun jv => l.length - (intOf jv).toNat)
  case atStart => exact ⟨0, rfl, Nat.zero_le _, fun i hi => absurd hi (Nat.not_lt_zero _)⟩
  case round =>
    obtain ⟨j, rfl, hj, hb⟩ := hrel
    by_cases hlt : j < l.length
    · obtain ⟨b, off, rfl, hc⟩ := hcells (fun h => by simp [h] at hlt)
      have hcx : w.cell? ⟨b, off + j, none⟩ = some (.int .i64 l[j]) := Reads.int_at hc hlt
      clear hc hcells
      generalize hy : l[j] = y at hcx
      have HY := Lib.hid hy
      clear hy
      by_cases h0 : y = 0
      · subst h0
        go_wp2
        go_round
        case rel =>
          refine ⟨j + 1, vi (by omega), hlt, fun i hi hl => ?_⟩
          by_cases e : i = j
          · subst e; exact HY.out
          · exact hb.out i (by omega) hl
        case measure => simp [intOf]; omega
      · have hne : (y != 0) = true := by simpa using h0
        have H0 := Lib.hid h0
        clear h0
        go_wp2
        go_ret
        exact ⟨by rw [orI_hit hlt (by rw [HY.out]; exact H0.out) (fun i hi => hb.out i hi (by omega)), HY.out]; rfl, rfl⟩
    · have hjl : j = l.length := by omega
      subst hjl
      go_wp2
      go_ret
      exact ⟨by rw [orI_miss (fun j hj => hb.out j hj hj)]; rfl, rfl⟩


/-- three numbers in a block of their own -/
theorem reads3 (W : World) (b : Nat) (x y z : Int) (h0 : W.cell? ⟨b, 0, none⟩ = some (.int .i64 x)) (h1 : W.cell? ⟨b, 1, none⟩ = some (.int .i64 y)) (h2 : W.cell? ⟨b, 2, none⟩ = some (.int .i64 z)) :
    Reads encI W (.slice (some ⟨b, 0, none⟩) 3 3) [x, y, z] := by
  refine ⟨_, 3, rfl, by simp, by simp [maxLen], fun _ => ⟨b, 0, rfl, fun t u ht => ?_⟩⟩
  match t, ht with
  | 0, ht => simp [encI] at ht; subst ht; simpa using h0
  | 1, ht => simp [encI] at ht; subst ht; simpa using h1
  | 2, ht => simp [encI] at ht; subst ht; simpa using h2
  | t + 3, ht => simp [encI] at ht

/-- term.Compare -/
theorem termCompare_any (a b : Tm) (w : World) : Calls Try.prog 14 #[vTm a, vTm b] w fun e w' => e = .returned (.int .i64 (cmpTm a b)) ∧ Ext w w' := by
  obtain ⟨ka, sa, la⟩ := a
  obtain ⟨kb, sb, lb⟩ := b
  go_enter Try.func14, Try.ntmps14
  go_upto_region 1 with (fail)
  have a0 : ((w.alloc (.cells #[.int .i64 ka, .string sa, .string la] 28)).alloc (.cells #[.int .i64 kb, .string sb, .string lb] 28)).cell? ⟨w.heap.size, 0, none⟩ = some (.int .i64 ka) := by go_simp
  have a1 : ((w.alloc (.cells #[.int .i64 ka, .string sa, .string la] 28)).alloc (.cells #[.int .i64 kb, .string sb, .string lb] 28)).cell? ⟨w.heap.size, 1, none⟩ = some (.string sa) := by go_simp
  have a2 : ((w.alloc (.cells #[.int .i64 ka, .string sa, .string la] 28)).alloc (.cells #[.int .i64 kb, .string sb, .string lb] 28)).cell? ⟨w.heap.size, 2, none⟩ = some (.string la) := by go_simp
  have b0 : ((w.alloc (.cells #[.int .i64 ka, .string sa, .string la] 28)).alloc (.cells #[.int .i64 kb, .string sb, .string lb] 28)).cell? ⟨w.heap.size + 1, 0, none⟩ = some (.int .i64 kb) := by go_simp
  have b1 : ((w.alloc (.cells #[.int .i64 ka, .string sa, .string la] 28)).alloc (.cells #[.int .i64 kb, .string sb, .string lb] 28)).cell? ⟨w.heap.size + 1, 1, none⟩ = some (.string sb) := by go_simp
  have b2 : ((w.alloc (.cells #[.int .i64 ka, .string sa, .string la] 28)).alloc (.cells #[.int .i64 kb, .string sb, .string lb] 28)).cell? ⟨w.heap.size + 1, 2, none⟩ = some (.string lb) := by go_simp
  have hx : Ext w ((w.alloc (.cells #[.int .i64 ka, .string sa, .string la] 28)).alloc (.cells #[.int .i64 kb, .string sb, .string lb] 28)) := ((Ext.refl w).alloc _).alloc _
  generalize hwb : World.alloc (World.alloc w _) _ = wb at a0 a1 a2 b0 b1 b2 hx ⊢
  clear hwb
  have A0 := Later.cell a0
  have A1 := Later.cell a1
  have A2 := Later.cell a2
  have B0 := Later.cell b0
  have B1 := Later.cell b1
  have B2 := Later.cell b2
  clear a0 a1 a2 b0 b1 b2
  refine wp_region_ext [0, 1, 2, 3, 4, 5, 6, 7, 8, 9, 10, 11, 12, 13, 14] [15, 16, 17] (by kernel_rfl) (by kernel_rfl) ?_
  simp only [List.filterMap_cons, List.filterMap_nil, List.getElem?_cons_succ, List.getElem?_cons_zero]
  repeat (first | ((with_reducible refine wpFr_yes ?hw ?_); (case hw => rfl); intro K hK; go_simp; (first | (refine hK _ ?_; clear hK K) | (apply Exists.intro; refine ⟨fun x => ?_, hK _ ?_⟩; ((first | (go_at_call 27; exact (cmpCompare_int _ _ _).mono fun e w' ⟨h1, h2⟩ => ⟨h1, h2 ▸ Ext.refl _⟩) | (go_at_call 42; exact (stringsCompare_any _ _ _).mono fun e w' ⟨h1, h2⟩ => ⟨h1, h2 ▸ Ext.refl _⟩))); clear hK K))) | ((with_reducible refine wpFr_not ?hw ?_); (case hw => rfl); intro K hK; go_simp; (refine hK _ ?_; clear hK K)))
  refine wpFr_nil ?_
  refine wpTl_step (fun W1 K hx1 hK => ?_)
  go_simp
  refine ⟨hx1.alloc _, hK _ _ ?_⟩
  clear hK K
  refine wpTl_step (fun W2 K hx2 hK => ?_)
  go_simp
  refine (cmpOr_int _ [cmpI ka kb, cmpS sa sb, cmpS la lb] W2 (reads3 _ _ _ _ _ (hx2.cell (by go_simp)) (hx2.cell (by go_simp)) (hx2.cell (by go_simp)))).mono ?_
  rintro e w3 ⟨rfl, rfl⟩
  refine ⟨_, rfl, (hx1.alloc _).trans hx2, hK _ _ ?_⟩
  clear hK K
  refine wpTl_step (fun W3 K hx3 hK => ?_)
  go_simp
  refine ⟨((hx1.alloc _).trans hx2).trans hx3, hK _ _ ?_⟩
  clear hK K
  refine wpTl_nil fun x hx4 => ?_
  go_wp2
  go_ret
  exact ⟨rfl, (((hx.trans hx1).alloc _).trans (hx2.trans hx3)).trans hx4⟩


/-- triple.Compare -/
theorem tripleCompare_any (a b : Tr) (w : World) : Calls Try.prog 51 #[vTr a, vTr b] w fun e w' => e = .returned (.int .i64 (cmpTr a b)) ∧ Ext w w' := by
  obtain ⟨⟨k1, s1, l1⟩, ⟨k2, s2, l2⟩, ⟨k3, s3, l3⟩⟩ := a
  obtain ⟨⟨k4, s4, l4⟩, ⟨k5, s5, l5⟩, ⟨k6, s6, l6⟩⟩ := b
  go_enter Try.func51, Try.ntmps51
  go_upto_region 1 with (fail)
  have h2 := alloc_heap_new (w.alloc (.cells #[.int .i64 k1, .string s1, .string l1, .int .i64 k2, .string s2, .string l2, .int .i64 k3, .string s3, .string l3] 82))
    (.cells #[.int .i64 k4, .string s4, .string l4, .int .i64 k5, .string s5, .string l5, .int .i64 k6, .string s6, .string l6] 82)
  have h1 := alloc_heap_old (w.alloc (.cells #[.int .i64 k1, .string s1, .string l1, .int .i64 k2, .string s2, .string l2, .int .i64 k3, .string s3, .string l3] 82))
    (.cells #[.int .i64 k4, .string s4, .string l4, .int .i64 k5, .string s5, .string l5, .int .i64 k6, .string s6, .string l6] 82) _ _ (alloc_heap_new w _)
  have hx := ((Ext.refl w).alloc (.cells #[.int .i64 k1, .string s1, .string l1, .int .i64 k2, .string s2, .string l2, .int .i64 k3, .string s3, .string l3] 82)).alloc
    (.cells #[.int .i64 k4, .string s4, .string l4, .int .i64 k5, .string s5, .string l5, .int .i64 k6, .string s6, .string l6] 82)
  rw [World.size_alloc] at h2
  generalize World.alloc (World.alloc w _) _ = wb at h1 h2 hx ⊢
  have A := Later.cells h1
  have B := Later.cells h2
  clear h1 h2
  refine wp_region_ext [0, 1, 2, 3, 4, 5, 6, 7, 8, 9, 10, 11, 12, 13, 14] [15, 16, 17] (by kernel_rfl) (by kernel_rfl) ?_
  simp only [List.filterMap_cons, List.filterMap_nil, List.getElem?_cons_succ, List.getElem?_cons_zero]
  repeat (first | ((with_reducible refine wpFr_yes ?hw ?_); (case hw => rfl); intro K hK; go_simp; (first | (refine hK _ ?_; clear hK K) | (apply Exists.intro; refine ⟨fun x => ?_, hK _ ?_⟩; ((first | (go_at_call 14; exact termCompare_any ⟨_, _, _⟩ ⟨_, _, _⟩ _))); clear hK K))) | ((with_reducible refine wpFr_not ?hw ?_); (case hw => rfl); intro K hK; go_simp; (refine hK _ ?_; clear hK K)))
  refine wpFr_nil ?_
  refine wpTl_step (fun W1 K hx1 hK => ?_)
  go_simp
  refine ⟨hx1.alloc _, hK _ _ ?_⟩
  clear hK K
  refine wpTl_step (fun W2 K hx2 hK => ?_)
  go_simp
  refine (cmpOr_int _ [cmpTm ⟨k1, s1, l1⟩ ⟨k4, s4, l4⟩, cmpTm ⟨k2, s2, l2⟩ ⟨k5, s5, l5⟩, cmpTm ⟨k3, s3, l3⟩ ⟨k6, s6, l6⟩] W2 (reads3 _ _ _ _ _ (hx2.cell (by go_simp)) (hx2.cell (by go_simp)) (hx2.cell (by go_simp)))).mono ?_
  rintro e w3 ⟨rfl, rfl⟩
  refine ⟨_, rfl, (hx1.alloc _).trans hx2, hK _ _ ?_⟩
  clear hK K
  refine wpTl_step (fun W3 K hx3 hK => ?_)
  go_simp
  refine ⟨((hx1.alloc _).trans hx2).trans hx3, hK _ _ ?_⟩
  clear hK K
  refine wpTl_nil fun x hx4 => ?_
  go_wp2
  go_ret
  exact ⟨rfl, (((hx.trans hx1).alloc _).trans (hx2.trans hx3)).trans hx4⟩

/-- triple.shape -/
theorem tripleShape_any (t : Tr) (w : World) : Calls Try.prog 87 #[vTr t] w fun e w' => e = .returned (.bool (trShape t)) ∧ Ext w w' := by
  obtain ⟨⟨k1, s1, l1⟩, ⟨k2, s2, l2⟩, ⟨k3, s3, l3⟩⟩ := t
  by_cases h : k1 = 3
  · subst h
    go_enter Try.func87, Try.ntmps87
    go_wp2
    go_ret
    exact ⟨by simp [trShape], (Ext.refl w).alloc _⟩
  · have h1 : (k1 != 3) = true := by simpa using h
    have H := Lib.hid h
    clear h
    by_cases h2 : k2 = 1
    · subst h2
      go_enter Try.func87, Try.ntmps87
      go_wp2
      go_ret
      exact ⟨by simp [trShape, H.out], (Ext.refl w).alloc _⟩
    · have h3 : (k2 == 1) = false := by simpa using h2
      have H2 := Lib.hid h2
      clear h2
      go_enter Try.func87, Try.ntmps87
      go_wp2
      go_ret
      exact ⟨by simp [trShape, H.out, H2.out], (Ext.refl w).alloc _⟩


abbrev vB (c : UInt8) : Value := .int .u8 (c.toNat : Int)

theorem letter_any (c : UInt8) (w : World) : Calls Try.prog 71 #[vB c] w fun e w' => e = .returned (.bool (isLetter c)) ∧ Ext w w' := by
  by_cases h1 : 97 ≤ c.toNat
  · by_cases h2 : c.toNat ≤ 122
    · go_enter Try.func71, Try.ntmps71
      go_wp2
      go_ret
      exact ⟨by simp [isLetter, h1, h2]; try omega, Ext.refl _⟩
    · go_enter Try.func71, Try.ntmps71
      go_wp2
      go_ret
      exact ⟨by simp [isLetter, h1, show ¬ c.toNat ≤ 122 by omega]; try omega, Ext.refl _⟩
  · go_enter Try.func71, Try.ntmps71
    go_wp2
    go_ret
    exact ⟨by simp [isLetter, show ¬ 97 ≤ c.toNat by omega], Ext.refl _⟩
theorem digit_any (c : UInt8) (w : World) : Calls Try.prog 79 #[vB c] w fun e w' => e = .returned (.bool (isDigit c)) ∧ Ext w w' := by
  by_cases h1 : 48 ≤ c.toNat
  · by_cases h2 : c.toNat ≤ 57
    · go_enter Try.func79, Try.ntmps79
      go_wp2
      go_ret
      exact ⟨by simp [isDigit, h1, h2]; try omega, Ext.refl _⟩
    · go_enter Try.func79, Try.ntmps79
      go_wp2
      go_ret
      exact ⟨by simp [isDigit, h1, show ¬ c.toNat ≤ 57 by omega]; try omega, Ext.refl _⟩
  · go_enter Try.func79, Try.ntmps79
    go_wp2
    go_ret
    exact ⟨by simp [isDigit, show ¬ 48 ≤ c.toNat by omega], Ext.refl _⟩
theorem bytes3_any (c : UInt8) (w : World) : Calls Try.prog 81 #[vB c] w fun e w' => e = .returned (.bool (isText c)) ∧ Ext w w' := by
  by_cases h1 : 32 ≤ c.toNat
  · by_cases h2 : c.toNat ≤ 126
    · go_enter Try.func81, Try.ntmps81
      go_wp2
      go_ret
      exact ⟨by simp [isText, h1, h2]; try omega, Ext.refl _⟩
    · go_enter Try.func81, Try.ntmps81
      go_wp2
      go_ret
      exact ⟨by simp [isText, h1, show ¬ c.toNat ≤ 126 by omega]; try omega, Ext.refl _⟩
  · go_enter Try.func81, Try.ntmps81
    go_wp2
    go_ret
    exact ⟨by simp [isText, show ¬ 32 ≤ c.toNat by omega], Ext.refl _⟩

theorem bytes2_any (c : UInt8) (w : World) : Calls Try.prog 80 #[vB c] w fun e w' => e = .returned (.bool (isAnon c)) ∧ Ext w w' := by
  cases hL : isLetter c
  all_goals
    go_enter Try.func80, Try.ntmps80
    go_wp2_with (first | (go_at_call 71; refine (letter_any _ _).mono ?_; rintro e w1 ⟨rfl, hx1⟩) | (go_at_call 79; refine (digit_any _ _).mono ?_; rintro e w2 ⟨rfl, hx2⟩))
    go_ret
    first | exact ⟨by simp [isAnon, hL], ‹Ext w w1›⟩ | exact ⟨by simp [isAnon, hL], Ext.trans ‹Ext w w1› ‹Ext w1 w2›⟩


theorem bytes1_any (c : UInt8) (w : World) : Calls Try.prog 78 #[vB c] w fun e w' => e = .returned (.bool (isName c)) ∧ Ext w w' := by
  cases hL : isLetter c with
  | true =>
    go_enter Try.func78, Try.ntmps78
    go_wp2_with (go_at_call 71; refine (letter_any _ _).mono ?_; rintro e w1 ⟨rfl, hx1⟩)
    go_ret
    exact ⟨by simp [isName, hL], ‹Ext w w1›⟩
  | false =>
    cases hD : isDigit c with
    | true =>
      go_enter Try.func78, Try.ntmps78
      go_wp2_with (first | (go_at_call 71; refine (letter_any _ _).mono ?_; rintro e w1 ⟨rfl, hx1⟩) | (go_at_call 79; refine (digit_any _ _).mono ?_; rintro e w2 ⟨rfl, hx2⟩))
      go_ret
      exact ⟨by simp [isName, hL, hD], Ext.trans ‹Ext w w1› ‹Ext w1 w2›⟩
    | false =>
      have e1 : ((c.toNat : Int) == 58) = decide (c.toNat = 58) := by rw [Bool.eq_iff_iff]; simp; omega
      have e2 : ((c.toNat : Int) == 47) = decide (c.toNat = 47) := by rw [Bool.eq_iff_iff]; simp; omega
      have e3 : ((c.toNat : Int) == 46) = decide (c.toNat = 46) := by rw [Bool.eq_iff_iff]; simp; omega
      generalize hd1 : decide (c.toNat = 58) = d1 at e1
      generalize hd2 : decide (c.toNat = 47) = d2 at e2
      generalize hd3 : decide (c.toNat = 46) = d3 at e3
      have HD := Lib.hid (And.intro hd1 (And.intro hd2 hd3))
      clear hd1 hd2 hd3
      have hfin : isName c = (d1 || d2 || d3) := by unfold isName; rw [hL, hD, HD.out.1, HD.out.2.1, HD.out.2.2]; simp
      have HF := Lib.hid hfin
      clear hfin
      cases d1 <;> cases d2 <;> cases d3
      all_goals
        go_enter Try.func78, Try.ntmps78
        go_wp2_with (first | (go_at_call 71; refine (letter_any _ _).mono ?_; rintro e w1 ⟨rfl, hx1⟩) | (go_at_call 79; refine (digit_any _ _).mono ?_; rintro e w2 ⟨rfl, hx2⟩))
        go_ret
        exact ⟨by rw [HF.out]; rfl, Ext.trans ‹Ext w w1› ‹Ext w1 w2›⟩

theorem kind_any (k : Int) (w : World) : Calls Try.prog 70 #[.int .i64 k] w fun e w' => e = .returned (.bool (decide (1 ≤ k) && decide (k ≤ 3))) ∧ w = w' := by
  by_cases h1 : 1 ≤ k
  · by_cases h2 : k ≤ 3
    · go_enter Try.func70, Try.ntmps70
      go_wp2
      go_ret
      exact ⟨by simp [h1, h2], rfl⟩
    · go_enter Try.func70, Try.ntmps70
      go_wp2
      go_ret
      exact ⟨by simp [h1, show ¬ k ≤ 3 by omega], rfl⟩
  · go_enter Try.func70, Try.ntmps70
    go_wp2
    go_ret
    exact ⟨by simp [show ¬ 1 ≤ k by omega], rfl⟩

/-- the function that tells the bytes of a kind -/
def fnBytes (k : Int) : Nat := if k = 1 then 78 else if k = 2 then 80 else 81
theorem bytes_any (k : Int) (w : World) : Calls Try.prog 41 #[.int .i64 k] w fun e w' => e = .returned (.func (.func (fnBytes k)) #[] #[]) ∧ w = w' := by
  by_cases h1 : k = 1
  · subst h1
    go_enter Try.func41, Try.ntmps41
    go_wp2
    go_ret
    exact ⟨rfl, rfl⟩
  · have b1 : (k == 1) = false := by simpa using h1
    by_cases h2 : k = 2
    · subst h2
      go_enter Try.func41, Try.ntmps41
      go_wp2
      go_ret
      exact ⟨rfl, rfl⟩
    · have b2 : (k == 2) = false := by simpa using h2
      have H := Lib.hid (And.intro h1 h2)
      clear h1 h2
      go_enter Try.func41, Try.ntmps41
      go_wp2
      go_ret
      exact ⟨by simp [fnBytes, H.out.1, H.out.2], rfl⟩

theorem letter_tells (B : Nat) (w : World) (D : UInt8 → Prop) : Tells B w 71 #[] vB isLetter D :=
  ⟨Go.Proofs.enters_of Try.func71 (by kernel_rfl) rfl, fun W x _ _ => letter_any x W⟩
theorem bytes_tells (k : Int) (B : Nat) (w : World) (D : UInt8 → Prop) : Tells B w (fnBytes k) #[] vB (okBytes k) D := by
  by_cases h1 : k = 1
  · subst h1
    exact ⟨Go.Proofs.enters_of Try.func78 (by kernel_rfl) rfl, fun W x _ _ => bytes1_any x W⟩
  · by_cases h2 : k = 2
    · subst h2
      exact ⟨Go.Proofs.enters_of Try.func80 (by kernel_rfl) rfl, fun W x _ _ => bytes2_any x W⟩
    · have e1 : fnBytes k = 81 := by simp [fnBytes, h1, h2]
      have e2 : okBytes k = isText := by funext c; simp [okBytes, h1, h2]
      rw [e1, e2]
      exact ⟨Go.Proofs.enters_of Try.func81 (by kernel_rfl) rfl, fun W x _ _ => bytes3_any x W⟩

/-- the closure of all: a byte that is not so -/
theorem all1_any (c : UInt8) (b g : Nat) (p : UInt8 → Bool) (W : World) (hc : W.cell? ⟨b, 0, none⟩ = some (.func (.func g) #[] #[])) (eg : ∀ args w, (callFunc g args).run Try.prog w = .ok (.enter g args) w)
    (ht : Calls Try.prog g (#[vB c] ++ #[]) W fun e w' => e = .returned (.bool (p c)) ∧ Ext W w') :
    Calls Try.prog 77 #[vB c, .pointer (some ⟨b, 0, none⟩)] W fun e w' => e = .returned (.bool (!p c)) ∧ Ext W w' := by
  have HT := Lib.hid ht
  clear ht
  go_enter Try.func77, Try.ntmps77
  go_wp2_with (go_at_fn g; refine HT.out.mono ?_; rintro e w1 ⟨rfl, hx1⟩)
  go_ret
  exact ⟨rfl, hx1⟩

/-- all bytes of a text are so -/
theorem termAll_any (s : ByteArray) (g : Nat) (p : UInt8 → Bool) (w : World) (hs : s.size ≤ maxLen) (ht : Tells w.heap.size w g #[] vB p (fun _ => True)) :
    Calls Try.prog 40 #[.string s, .func (.func g) #[] #[]] w fun e w' => e = .returned (.bool ((bytesOf s).all p)) ∧ Ext w w' := by
  go_enter Try.func40, Try.ntmps40
  go_upto_region 1 with (fail)
  generalize hwb : World.alloc w _ = wb
  have hx : Ext w wb := by rw [← hwb]; exact (Ext.refl w).alloc _
  have hc : wb.cell? ⟨w.heap.size, 0, none⟩ = some (.func (.func g) #[] #[]) := by rw [← hwb, World.cell?_alloc_at _ _ _ _ rfl]; rfl
  clear hwb
  obtain ⟨c, w2, hcv, hx2, hcap, hmax, hcells⟩ := conv_bytes (P := Try.prog) wb 9 149 5 s Try.underlying9 Try.underlying149 Try.underlying5 hs
  have hR : Reads encB w2 (.slice (some ⟨wb.heap.size, 0, none⟩) (bytesOf s).length c) (bytesOf s) := by
    refine ⟨_, c, rfl, by simpa using hcap, hmax, fun _ => ⟨_, 0, rfl, fun t u ht => ?_⟩⟩
    have hlt : t < s.size := by
      have := (List.getElem?_eq_some_iff.1 ht).1
      rw [flat_len (k := 1) (fun _ => rfl)] at this
      have e : (bytesOf s).length = s.size := by simp
      omega
    have h := flat_get (enc := encB) (k := 1) (fun _ => rfl) (bytesOf s) t 0 (by simpa using hlt) (by omega)
    simp only [Nat.mul_one, Nat.add_zero] at h
    rw [h] at ht
    simp [encB] at ht
    subst ht
    rw [Nat.zero_add]
    exact hcells t hlt
  have hC := containsFunc_byte _ (bytesOf s) w2 w2.heap.size 77 #[.pointer (some ⟨w.heap.size, 0, none⟩)] (fun c => !p c) hR (Nat.le_refl _)
    ⟨Go.Proofs.enters_of Try.func77 (by kernel_rfl) rfl, fun W x _ hW => all1_any x w.heap.size g p W (Ext.cell hW (hx2.cell hc)) ht.enters (ht.tells W x trivial (hx.trans (hx2.trans hW)))⟩
  have hfin : (!(bytesOf s).any fun c => !p c) = (bytesOf s).all p := by simp [List.all_eq_not_any_not]
  have HC := Lib.hid (And.intro hC hfin)
  have hlen : (bytesOf s).length = s.size := by simp
  rw [hlen] at HC
  clear hC hfin hR hcells ht hlen
  generalize (bytesOf s).any (fun c => !p c) = r at HC
  go_wp2_with (go_at_call 76; refine HC.out.1.mono ?_; rintro e w3 ⟨rfl, hx3⟩)
  go_ret
  exact ⟨by rw [← HC.out.2]; rfl, (hx.trans hx2).trans hx3⟩

end Go.Proofs.Ytmobdmljbbckiaa
