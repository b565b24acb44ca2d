/- The law DictFull walked. -/
import Derived.Test.YtommohepbpdmdaaDoorDictRoom
import Derived.Test.YtommohepbpdmdaaDoorTexts
import Derived.Test.YtommohepbpdmdaaDoorTold
namespace Go.Proofs.YtommohepbpdmdaaDoor
open Go.RowKit Go.Maps Go.WideMaps
set_option maxHeartbeats 3200000
set_option maxRecDepth 100000

/-- the first k texts -/
def textsTo (k : Nat) : List Tm := (List.range k).map textTm
theorem textsTo_len (k : Nat) : (textsTo k).length = k := by simp [textsTo]
theorem textsTo_succ (k : Nat) : textsTo (k + 1) = textsTo k ++ [textTm k] := by simp [textsTo, List.range_succ]
theorem textsTo_at {k i : Nat} (h : i < (textsTo k).length) : (textsTo k)[i] = textTm i := by simp [textsTo]
theorem textTm_inj {i j : Nat} (hi : i < 676) (hj : j < 676) (h : textTm i = textTm j) : i = j := by
  have h1 := congrArg (fun t : Tm => t.s.data.toList) h
  simp [textTm, textOf] at h1
  obtain ⟨a, b⟩ := h1
  have ha := congrArg UInt8.toNat a
  have hb := congrArg UInt8.toNat b
  simp at ha hb
  omega
theorem textsTo_not {k i : Nat} (hk : k ≤ i) (hi : i < 676) : textTm i ∉ textsTo k := by
  intro h
  obtain ⟨j, hj, he⟩ := List.mem_map.1 h
  have hj := List.mem_range.1 hj
  have := textTm_inj (by omega) hi he
  omega
theorem textTm_key (i : Nat) : TmKey (textTm i) := ⟨by show (Lit.int .i64 3).wf = true; decide, by show 2 ≤ maxLen; decide, by show 0 ≤ maxLen; decide⟩
theorem textTm_ok : ∀ i, i < 676 → tmErr (textTm i) = none := by decide +kernel


theorem dictFull_in (n : Nat) (again : Int) (hn : n ≤ 320) (w : World) (hg : HandleAt w) : Calls Tryd.prog 5 #[.int .i64 n, .int .i64 again] w fun e w' => e = .returned (.bool true) ∧ Ext w w' := by
  have HG := Lib.hid hg
  clear hg
  go_enter Tryd.func5, Tryd.ntmps5
  go_wp2_with (go_at_call 16; refine (dictNew_any _).mono ?_; rintro e w1 ⟨db, mb, rfl, hD0, hdb, hmb, hx1⟩)
  have HN := Lib.hid hD0
  clear hD0
  go_loopw [6] (fun iv wr => ∃ i : Nat, iv = .int .i64 i ∧ i ≤ n ∧ Hid (∃ v, DictAt wr db mb w.heap.size v (textsTo (min i 300))) ∧ Ext w wr) (fun iv _ => n - (intOf iv).toNat)
  case atStart => exact ⟨0, rfl, Nat.zero_le _, Lib.hid ⟨_, HN.out⟩, hx1⟩
  case round =>
    obtain ⟨i, rfl, hi, HS, hx⟩ := hrel
    clear HN hx1
    obtain ⟨v, hD⟩ := HS.out
    by_cases hlt : i < n
    · by_cases h3 : i < 300
      · have hm : min i 300 = i := by omega
        have hm2 : min (i + 1) 300 = i + 1 := by omega
        rw [hm] at hD
        have hadd : ∀ W, Ext wr W → Calls Tryd.prog 17 #[.pointer (some ⟨db, 0, none⟩), vTm (textTm i)] W fun e w' => e = .returned (.tuple #[.int .i64 ((i : Int) + 1), .nilIface]) ∧ Hid (∃ v, DictAt w' db mb w.heap.size v (textsTo (i + 1))) ∧ Ext w w' := fun W hW =>
          dictAdd_any (hD.ext hW) hdb hmb (hx.trans hW).size (textTm i) (textTm_key i) (textTm_ok i (by omega)) (by rw [textsTo_len]; omega) _
            (fun _ h => by rw [textsTo_len] at h; omega)
            (fun _ _ w' v' h1 h2 => ⟨by rw [textsTo_len], ⟨_, by rw [textsTo_succ]; exact h1⟩, Below.trans (hx.trans hW) h2⟩)
            (fun j hj he => by
              rw [textsTo_at] at he
              rw [textsTo_len] at hj
              exact absurd (textTm_inj (by omega) (by omega) he) (by omega))
        have HA := Lib.hid (And.intro hadd hm2)
        clear hadd hD HS hm hm2
        go_wp2_with (first | (go_at_call 9; refine (text_any i (by omega) _).mono ?_; rintro e w2 ⟨rfl, hxt⟩) | (go_at_call 17; with_reducible refine (HA.out.1 _ hxt).mono ?_; rintro e w3 ⟨rfl, HD3, hx3⟩) | (go_at_call 11; with_reducible refine (same_nil 4 _).mono ?_; rintro e w5 ⟨rfl, rfl⟩))
        go_roundw
        case rel => exact ⟨i + 1, vi (by omega), hlt, by rw [HA.out.2]; exact HD3, hx3⟩
        case measure => simp [intOf]; omega
      · have hm : min i 300 = 300 := by omega
        have hm2 : min (i + 1) 300 = 300 := by omega
        rw [hm] at hD
        have hadd : ∀ W, Ext wr W → Calls Tryd.prog 17 #[.pointer (some ⟨db, 0, none⟩), vTm (textTm i)] W fun e w' => e = .returned (.tuple #[.int .i64 0, eV 4]) ∧ Ext wr w' := fun W hW =>
          dictAdd_any (hD.ext hW) hdb hmb (hx.trans hW).size (textTm i) (textTm_key i) (textTm_ok i (by omega)) (by rw [textsTo_len]; omega) _
            (fun _ _ w' h => ⟨rfl, hW.trans h⟩)
            (fun _ h => by rw [textsTo_len] at h; omega)
            (fun j hj he => by
              rw [textsTo_at] at he
              rw [textsTo_len] at hj
              exact absurd (textTm_inj (by omega) (by omega) he) (by omega))
        have HA := Lib.hid (And.intro hadd (And.intro hm2 hD))
        have HE := Lib.hid (fun W (h : Ext wr W) => same_some 4 4 W (HG.out.ext (hx.trans h)))
        clear hadd hD HS hm hm2
        go_wp2_with (first | (go_at_call 9; refine (text_any i (by omega) _).mono ?_; rintro e w2 ⟨rfl, hxt⟩) | (go_at_call 17; with_reducible refine (HA.out.1 _ hxt).mono ?_; rintro e w3 ⟨rfl, hx3⟩) | (go_at_call 11; with_reducible refine (HE.out _ hx3).mono ?_; rintro e w5 ⟨rfl, hx5⟩))
        go_roundw
        case rel => exact ⟨i + 1, vi (by omega), hlt, by rw [HA.out.2.1]; exact Lib.hid ⟨_, HA.out.2.2.ext (hx3.trans hx5)⟩, hx.trans (hx3.trans hx5)⟩
        case measure => simp [intOf]; omega
    · have hin : i = n := by omega
      subst hin
      by_cases ha : again < 0 ∨ (i : Int) ≤ again ∨ 300 ≤ again
      · clear HS hD
        by_cases h1 : again < 0
        · clear ha
          go_wp2
          go_ret
          exact ⟨rfl, hx⟩
        · by_cases h2 : (i : Int) ≤ again
          · clear ha
            go_wp2
            go_ret
            exact ⟨rfl, hx⟩
          · have h3 : 300 ≤ again := by omega
            clear ha
            go_wp2
            go_ret
            exact ⟨rfl, hx⟩
      · obtain ⟨a, rfl⟩ := Int.eq_ofNat_of_zero_le (show 0 ≤ again by omega)
        have ha1 : a < i := by omega
        have ha2 : a < 300 := by omega
        clear ha
        obtain ⟨K, hK⟩ : ∃ K, K = min i 300 := ⟨_, rfl⟩
        rw [← hK] at hD
        have haK : a < K := by omega
        have hK3 : K ≤ 300 := by omega
        have hadd : ∀ W, Ext wr W → Calls Tryd.prog 17 #[.pointer (some ⟨db, 0, none⟩), vTm (textTm a)] W fun e w' => e = .returned (.tuple #[.int .i64 ((a : Int) + 1), .nilIface]) ∧ Ext wr w' := fun W hW =>
          dictAdd_any (hD.ext hW) hdb hmb (hx.trans hW).size (textTm a) (textTm_key a) (textTm_ok a (by omega)) (by rw [textsTo_len]; omega) _
            (fun h => absurd (List.mem_map.2 ⟨a, List.mem_range.2 haK, rfl⟩) h)
            (fun h => absurd (List.mem_map.2 ⟨a, List.mem_range.2 haK, rfl⟩) h)
            (fun j hj he w' h => by
              rw [textsTo_at] at he
              rw [textsTo_len] at hj
              obtain rfl := textTm_inj (by omega) (by omega) he
              exact ⟨rfl, hW.trans h⟩)
        have hterm : ∀ W, Ext wr W → Calls Tryd.prog 18 #[.pointer (some ⟨db, 0, none⟩), .int .i64 ((a : Int) + 1)] W fun e w' => e = .returned (.tuple #[vTm (textTm a), .nilIface]) ∧ Ext wr w' := fun W hW => by
          have := dictTerm_any (hD.ext hW) a (by rw [textsTo_len]; exact haK) (by rw [textsTo_len]; omega)
          rw [textsTo_at] at this
          exact this.mono fun e w' ⟨h1, h2⟩ => ⟨h1, hW.trans h2⟩
        have hlen : ∀ W, Ext wr W → Calls Tryd.prog 19 #[.pointer (some ⟨db, 0, none⟩)] W fun e w' => e = .returned (.int .i64 (K : Nat)) ∧ Ext W w' := fun W hW => by
          have := dictLen_any (hD.ext hW)
          rw [textsTo_len] at this
          exact this.mono fun e w' ⟨h1, h2⟩ => ⟨h1, h2 ▸ Ext.refl _⟩
        have HA := Lib.hid (And.intro hadd (And.intro hterm hlen))
        clear hadd hterm hlen hD HS hK
        go_upto_region 17 with (first | (go_at_call 9; refine (text_any a (by omega) _).mono ?_; rintro e w2 ⟨rfl, hxt⟩) | (go_at_call 17; with_reducible refine (HA.out.1 _ hxt).mono ?_; rintro e w3 ⟨rfl, hx3⟩) | (go_at_call 18; with_reducible refine (HA.out.2.1 _ hx3).mono ?_; rintro e w4 ⟨rfl, hx4⟩))
        have hxb := hx4.alloc (.cells #[.int .i64 (textTm a).kind, .string (textTm a).s, .string (textTm a).lang] 25)
        have hbb := alloc_heap_new w4 (.cells #[.int .i64 (textTm a).kind, .string (textTm a).s, .string (textTm a).lang] 25)
        generalize hwb : World.alloc w4 _ = wb at hxb hbb ⊢
        clear hwb
        have A := Later.cells hbb
        have hl := fun (x : Later wb) => HA.out.2.2 x.wd (hxb.trans x.ext)
        have hq : tmEq ⟨(textTm a).kind, (textTm a).s, (textTm a).lang⟩ ⟨(textTm a).kind, (textTm a).s, (textTm a).lang⟩ = true := by simp [tmEq]
        have HL := Lib.hid hl
        clear hl hx3 hx4
        have hw1 : IntKind.i64.wrap ((a : Int) + 1) = (a : Int) + 1 := IntWalk.i64_in _ (by omega)
        have hw2 : ((a : Int) + 1 == (a : Int) + 1) = true := by simp
        have hw3 : decide ((K : Int) ≤ 300) = true := by simp; omega
        refine wp_region_ext [0, 1, 2, 3, 4, 5, 6, 7, 8, 9, 10, 11, 12, 13, 14, 15, 16, 17, 18, 19, 20, 21, 22, 23] [] (by kernel_rfl) (by kernel_rfl) ?_
        simp only [List.filterMap_cons, List.filterMap_nil, List.getElem?_cons_succ, List.getElem?_cons_zero]
        repeat (first | ((with_reducible refine wpFr_yes ?hw ?_); (case hw => rfl); intro K hK; go_simp; (first | (refine hK _ ?_; clear hK K) | (apply Exists.intro; refine ⟨fun x => ?_, hK _ ?_⟩; ((first | (go_at_call 9; exact text_any a (by omega) _) | (go_at_call 19; exact HL.out _))); clear hK K))) | ((with_reducible refine wpFr_not ?hw ?_); (case hw => rfl); intro K hK; go_simp; (refine hK _ ?_; clear hK K)))
        refine wpFr_nil ?_
        refine wpTl_nil fun y hyy => ?_
        clear hq A hbb hw1 hw2 hw3
        go_wp2
        go_ret
        exact ⟨by simp, (hx.trans hxb).trans hyy⟩

theorem dictFull_any (n : Int) (_ : (Lit.int .i64 n).wf = true) (again : Int) (_ : (Lit.int .i64 again).wf = true) (w : World) (hg : HandleAt w) : Calls Tryd.prog 5 #[.int .i64 n, .int .i64 again] w fun e w' => e = .returned (.bool true) ∧ Ext w w' := by
  by_cases h : n < 0
  · go_enter Tryd.func5, Tryd.ntmps5
    go_wp2
    go_ret
    exact ⟨rfl, Ext.refl _⟩
  · by_cases h2 : 320 < n
    · go_enter Tryd.func5, Tryd.ntmps5
      go_wp2
      go_ret
      exact ⟨rfl, Ext.refl _⟩
    · obtain ⟨a, rfl⟩ := Int.eq_ofNat_of_zero_le (show 0 ≤ n by omega)
      exact dictFull_in a again (by omega) w hg
end Go.Proofs.YtommohepbpdmdaaDoor
