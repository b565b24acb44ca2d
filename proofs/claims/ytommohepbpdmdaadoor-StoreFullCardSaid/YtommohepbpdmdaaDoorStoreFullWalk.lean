/- The law StoreFull walked. -/
import Derived.Test.YtommohepbpdmdaaDoorStorePutOk
import Derived.Test.YtommohepbpdmdaaDoorStorePure
import Derived.Test.YtommohepbpdmdaaDoorTold
namespace Go.Proofs.YtommohepbpdmdaaDoor
open Go.RowKit Go.Maps Go.WideMaps
set_option maxHeartbeats 3200000
set_option maxRecDepth 100000


theorem storeFull_out (n size : Int) (w : World) (h : n < 0 ∨ 320 < n ∨ size < 2 ∨ 1000 < size) : Calls Tryd.prog 3 #[.int .i64 n, .int .i64 size] w fun e w' => e = .returned (.bool true) ∧ Ext w w' := by
  by_cases h1 : n < 0
  · go_enter Tryd.func3, Tryd.ntmps3
    go_wp2_with (go_at_call 8; refine (storeNew_any _).mono ?_; rintro e w1 ⟨sb, b1, b2, rfl, hst, hsb, hb1, hb2, hx1⟩)
    go_ret
    exact ⟨rfl, hx1⟩
  · by_cases h2 : 320 < n
    · go_enter Tryd.func3, Tryd.ntmps3
      go_wp2_with (go_at_call 8; refine (storeNew_any _).mono ?_; rintro e w1 ⟨sb, b1, b2, rfl, hst, hsb, hb1, hb2, hx1⟩)
      go_ret
      exact ⟨rfl, hx1⟩
    · by_cases h3 : size < 2
      · go_enter Tryd.func3, Tryd.ntmps3
        go_wp2_with (go_at_call 8; refine (storeNew_any _).mono ?_; rintro e w1 ⟨sb, b1, b2, rfl, hst, hsb, hb1, hb2, hx1⟩)
        go_ret
        exact ⟨rfl, hx1⟩
      · have h4 : 1000 < size := by omega
        clear h
        go_enter Tryd.func3, Tryd.ntmps3
        go_wp2_with (go_at_call 8; refine (storeNew_any _).mono ?_; rintro e w1 ⟨sb, b1, b2, rfl, hst, hsb, hb1, hb2, hx1⟩)
        go_ret
        exact ⟨rfl, hx1⟩

theorem storeFull_in (n size : Nat) (hn : n ≤ 320) (hs2 : 2 ≤ size) (hs : size ≤ 1000) (w : World) (hg : HandleAt w) : Calls Tryd.prog 3 #[.int .i64 n, .int .i64 size] w fun e w' => e = .returned (.bool true) ∧ Ext w w' := by
  obtain ⟨K, hK⟩ : ∃ K, K = roomFor size := ⟨_, rfl⟩
  have hK300 : K ≤ 300 := hK ▸ roomFor_le size
  have HK := Lib.hid (show ∀ i, i < K ↔ i < 300 ∧ (i + 1) * size ≤ 60000 from fun i => hK ▸ fits_iff hs2 i)
  clear hK
  have HG := Lib.hid hg
  clear hg
  go_enter Tryd.func3, Tryd.ntmps3
  go_wp2_with (go_at_call 8; refine (storeNew_any _).mono ?_; rintro e w1 ⟨sb, b1, b2, rfl, hst, hsb, hb1, hb2, hx1⟩)
  have HN := Lib.hid hst
  clear hst
  go_loopw [6] (fun iv wr => ∃ i : Nat, iv = .int .i64 i ∧ i ≤ n ∧ Hid (StoreAt wr sb b1 b2 (min i K) (min i K * size) (idsOf size (min i K)) (allOf size (min i K))) ∧ Ext w wr) (fun iv _ => n - (intOf iv).toNat)
  case atStart => exact ⟨0, rfl, Nat.zero_le _, Lib.hid (by simpa [idsOf, allOf] using HN.out), hx1⟩
  case round =>
    obtain ⟨i, rfl, hi, HS, hx⟩ := hrel
    clear HN hx1
    by_cases hlt : i < n
    · go_wp2_with (go_at_call 9; refine (text_any i (by omega) _).mono ?_; rintro e w2 ⟨rfl, hx2⟩)
      have hx3 := (hx.trans hx2).alloc (.cells #[.int .i64 (textTm i).kind, .string (textTm i).s, .string (textTm i).lang] 25)
      have HX := Lib.hid hx3
      clear hx3
      go_loop [8, 9] (fun bv _ => ∃ m : Nat, bv = .string (textOf i ++ xrun m) ∧ 2 + m ≤ size) (fun bv _ => match bv with | .string s => size - s.size | _ => 0)
      case atStart => exact ⟨0, congrArg Value.string (show textOf i = textOf i ++ xrun 0 by apply ByteArray.ext; simp [xrun]), by omega⟩
      case round =>
        obtain ⟨m, rfl, hm⟩ := hrel
        obtain ⟨b, hb⟩ : ∃ b, b = textOf i ++ xrun m := ⟨_, rfl⟩
        rw [← hb]
        have hbs : b.size = m + 2 := by rw [hb, ByteArray.size_append, textOf_size, xrun_size]; omega
        have HB := Lib.hid hb
        clear hb
        by_cases hml : m + 2 < size
        · by_cases h50 : m + 2 + 50 < size
          · go_wp2
            go_round
            case rel => exact ⟨m + 50, congrArg Value.string (by rw [HB.out, ByteArray.append_assoc, xs_at 50 (by decide), xrun_add]), by omega⟩
            case measure => rw [xs_at 50 (by decide)]; show size - (b ++ xrun 50).size < size - b.size; rw [ByteArray.size_append, xrun_size]; omega
          · have hk : size - (m + 2) < 51 := by omega
            go_wp2
            go_round
            case rel => exact ⟨size - 2, congrArg Value.string (by rw [xs_at _ hk, HB.out, ByteArray.append_assoc, xrun_add]; congr 2; omega), by omega⟩
            case measure => rw [xs_at _ hk]; show size - (b ++ xrun (size - (m + 2))).size < size - b.size; rw [ByteArray.size_append, xrun_size]; omega
        · have hms : m = size - 2 := by omega
          have hbo : b = objOf size i := by rw [HB.out, hms]; rfl
          have hbz : b.size ≤ 100000 := by omega
          have hge : size ≤ b.size := by omega
          have HO := Lib.hid (And.intro hbo (And.intro (show b.size = size by omega) hbz))
          obtain ⟨P, hP⟩ : ∃ P : Nat, P = (i + 1) * size := ⟨_, rfl⟩
          have hPb : P ≤ 320 * 1000 := by rw [hP]; exact Nat.mul_le_mul (by omega) hs
          have hmul : IntKind.i64.wrap (((i : Int) + 1) * (size : Int)) = (P : Int) := by
            rw [show ((i : Int) + 1) * (size : Int) = (P : Int) by rw [hP]; push_cast; rfl]; exact IntWalk.i64_in _ (by omega)
          have HP := Lib.hid hP
          clear hP hbo HB hbz hms
          have hKs : min i K * size ≤ 300000 := Nat.le_trans (Nat.mul_le_mul (show min i K ≤ 300 by omega) hs) (by omega)
          by_cases hf : i < K
          · obtain ⟨f1, f2⟩ := (HK.out i).1 hf
            rw [← HP.out] at f2
            have hm1 : min i K = i := by omega
            have hm2 : min (i + 1) K = i + 1 := by omega
            have hst := HS.out
            rw [hm1] at hst hKs
            have hput : ∀ W, Ext w W → Ext wr W → Calls Tryd.prog 10 #[.pointer (some ⟨sb, 0, none⟩), .string b] W fun e w' => e = .returned (.tuple #[.int .i64 ((i : Int) + 1), .nilIface]) ∧
                StoreAt w' sb b1 b2 (i + 1) ((i + 1) * size) (idsOf size (i + 1)) (allOf size (i + 1)) ∧ Ext w w' := fun W hW hW2 => by
              have h1 := put_ok (hst.ext hW2) b HO.out.2.2 (by omega) (by omega) (by rw [allOf_len]; omega) (by rw [HO.out.1]; exact idsOf_out (Nat.le_refl _) (by omega)) (allOf_out size i) ⟨by rw [allOf_len]; omega, by rw [HO.out.2.1]; have := HP.out; rw [Nat.add_mul] at this; omega⟩
              refine h1.mono fun e w' ⟨a1, a2, a3⟩ => ⟨a1, ?_, a3.below hW hW.size hsb hb1 hb2⟩
              rw [HO.out.2.1, HO.out.1, ← idsOf_succ, ← allOf_succ] at a2
              rw [Nat.add_mul, Nat.one_mul]; exact a2
            have hknown : ∀ W, StoreAt W sb b1 b2 (i + 1) ((i + 1) * size) (idsOf size (i + 1)) (allOf size (i + 1)) → Calls Tryd.prog 10 #[.pointer (some ⟨sb, 0, none⟩), .string b] W fun e w' => e = .returned (.tuple #[.int .i64 ((i : Int) + 1), .nilIface]) ∧ w' = W := fun W hW =>
              put_known hW b HO.out.2.2 (i + 1) (by omega) (by rw [HO.out.1]; exact idsOf_in (Nat.lt_succ_self i))
            have HH := Lib.hid (And.intro hput (And.intro hknown (And.intro hm1 hm2)))
            clear hput hknown hm1 hm2 hst hml hbs hf
            have hx3 := HX.out
            have hx4 := hx2.alloc (.cells #[.int .i64 (textTm i).kind, .string (textTm i).s, .string (textTm i).lang] 25)
            go_wp2_with (first | (go_at_call 10; with_reducible refine (HH.out.1 _ hx3 hx4).mono ?_; rintro e w3 ⟨rfl, hst3, hx5⟩; clear hx3 hx4; have HT := Lib.hid hst3; clear hst3) | (go_at_call 10; with_reducible refine (HH.out.2.1 _ HT.out).mono ?_; rintro e w4 ⟨rfl, rfl⟩) | (go_at_call 11; with_reducible refine (same_nil 4 _).mono ?_; rintro e w5 ⟨rfl, rfl⟩))
            go_roundw
            case rel => exact ⟨i + 1, vi (by omega), hlt, Lib.hid (by rw [HH.out.2.2.2]; exact HT.out), hx5⟩
            case measure => simp [intOf]; omega
          · have hm1 : min i K = K := by omega
            have hm2 : min (i + 1) K = K := by omega
            have hst := HS.out
            rw [hm1] at hst hKs
            have hnf : ¬ (i < 300 ∧ (i + 1) * size ≤ 60000) := fun h => hf ((HK.out i).2 h)
            have hput : ∀ W, Ext w W → Ext wr W → Calls Tryd.prog 10 #[.pointer (some ⟨sb, 0, none⟩), .string b] W fun e w' => e = .returned (.tuple #[.int .i64 0, eV 4]) ∧ Ext wr w' ∧ Ext w w' := fun W hW hW2 => by
              have h1 := put_full (hst.ext hW2) b HO.out.2.2 (by omega) (by rw [allOf_len]; omega) (by rw [HO.out.1]; exact idsOf_out (by omega) (by omega)) (by
                rw [allOf_len, HO.out.2.1]
                rintro ⟨q1, q2⟩
                have := (HK.out K).2 ⟨by omega, by rw [Nat.add_mul, Nat.one_mul]; exact q2⟩
                omega)
              exact h1.mono fun e w' ⟨a1, a2⟩ => ⟨a1, hW2.trans a2, hW.trans a2⟩
            have HH := Lib.hid (And.intro hput (And.intro hm1 (And.intro hm2 hst)))
            have hx3 := HX.out
            have hx4 := hx2.alloc (.cells #[.int .i64 (textTm i).kind, .string (textTm i).s, .string (textTm i).lang] 25)
            have hsame := fun W (h : Ext w W) => same_some 4 4 W (HG.out.ext h)
            have HE := Lib.hid hsame
            clear hput hm1 hm2 hst hml hbs hsame
            by_cases f1 : i < 300
            · have f2 : ¬ P ≤ 60000 := fun h => hnf ⟨f1, by rw [← HP.out]; exact h⟩
              clear hnf
              go_wp2_with (first | (go_at_call 10; with_reducible refine (HH.out.1 _ hx3 hx4).mono ?_; rintro e w3 ⟨rfl, hx4, hx3⟩) | (go_at_call 11; with_reducible refine (HE.out _ hx3).mono ?_; rintro e w5 ⟨rfl, hx6⟩; replace hx3 := Ext.trans hx3 hx6; replace hx4 := Ext.trans hx4 hx6; clear hx6))
              go_roundw
              case rel => exact ⟨i + 1, vi (by omega), hlt, Lib.hid (by rw [HH.out.2.2.1]; exact HH.out.2.2.2.ext hx4), hx3⟩
              case measure => simp [intOf]; omega
            · clear hnf
              go_wp2_with (first | (go_at_call 10; with_reducible refine (HH.out.1 _ hx3 hx4).mono ?_; rintro e w3 ⟨rfl, hx4, hx3⟩) | (go_at_call 11; with_reducible refine (HE.out _ hx3).mono ?_; rintro e w5 ⟨rfl, hx6⟩; replace hx3 := Ext.trans hx3 hx6; replace hx4 := Ext.trans hx4 hx6; clear hx6))
              go_roundw
              case rel => exact ⟨i + 1, vi (by omega), hlt, Lib.hid (by rw [HH.out.2.2.1]; exact HH.out.2.2.2.ext hx4), hx3⟩
              case measure => simp [intOf]; omega
    · have hin : i = n := by omega
      subst hin
      have hst := HS.out
      have hlen := fun W (h : Ext wr W) => storeLen_any (hst.ext h)
      rw [allOf_len] at hlen
      have HL := Lib.hid hlen
      clear hst hlen
      have hm : min i K ≤ 300 := by omega
      have hml : (min i K : Nat) ≤ 300 := hm
      go_wp2_with (go_at_call 12; with_reducible refine (HL.out _ (Ext.refl _)).mono ?_; rintro e w4 ⟨rfl, rfl⟩)
      go_ret
      exact ⟨by congr 1; simp; omega, hx⟩

theorem storeFull_any (n : Int) (_ : (Lit.int .i64 n).wf = true) (size : Int) (_ : (Lit.int .i64 size).wf = true) (w : World) (hg : HandleAt w) : Calls Tryd.prog 3 #[.int .i64 n, .int .i64 size] w fun e w' => e = .returned (.bool true) ∧ Ext w w' := by
  by_cases h : n < 0 ∨ 320 < n ∨ size < 2 ∨ 1000 < size
  · exact storeFull_out n size w h
  · obtain ⟨a, rfl⟩ := Int.eq_ofNat_of_zero_le (show 0 ≤ n by omega)
    obtain ⟨b, rfl⟩ := Int.eq_ofNat_of_zero_le (show 0 ≤ size by omega)
    exact storeFull_in a b (by omega) (by omega) (by omega) w hg
end Go.Proofs.YtommohepbpdmdaaDoor
