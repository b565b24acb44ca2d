/- The law ChainFull walked. -/
import Derived.Test.YtmobdmljbbckiaaDoorChainLine
import Derived.Test.YtmobdmljbbckiaaDoorTold
namespace Go.Proofs.YtmobdmljbbckiaaDoor
open Go.RowKit
set_option maxHeartbeats 3200000
set_option maxRecDepth 100000

theorem chainFull_out (n a b : Int) (w : World) (h : n < 0 ∨ 40 < n) : Calls Tryd.prog 4 #[.int .i64 n, .int .i64 a, .int .i64 b] w fun e w' => e = .returned (.bool true) ∧ Ext w w' := by
  have hnew := chainNew_nil w
  by_cases h1 : n < 0
  · go_enter Tryd.func4, Tryd.ntmps4
    go_wp2_with (go_at_call 10; refine hnew.mono ?_; rintro e w1 ⟨cb, vb, rfl, _, _, hx1⟩)
    go_ret
    exact ⟨rfl, hx1⟩
  · have h2 : 40 < n := by omega
    clear h
    go_enter Tryd.func4, Tryd.ntmps4
    go_wp2_with (go_at_call 10; refine hnew.mono ?_; rintro e w1 ⟨cb, vb, rfl, _, _, hx1⟩)
    go_ret
    exact ⟨rfl, hx1⟩

/-- one of a list in memory, as a list of its own -/
theorem reads_one_of {w : World} {v : Value} {l : List Tr} (h : Reads encTr w v l) (i : Nat) (hi : i < l.length) : ∃ a cap, v = .slice a l.length cap ∧ Reads encTr w (.slice (cutA a i cap 9) 1 (cap - i)) [l[i]] := by
  obtain ⟨a, cap, rfl, hcap, hmax, hcells⟩ := h
  obtain ⟨b, off, rfl, hc⟩ := hcells (fun h0 => by rw [h0] at hi; exact absurd hi (Nat.not_lt_zero _))
  refine ⟨_, cap, rfl, ⟨_, cap - i, rfl, by simp; omega, Nat.le_trans (Nat.sub_le _ _) hmax, fun _ => ⟨b, off + i * 9, ?_, fun t u ht => ?_⟩⟩⟩
  · unfold cutA
    rw [if_neg (by omega)]
    show some ((⟨b, off, none⟩ : Addr).add (i * 9)) = _
    rw [Go.WideShapes.add_plain]
  · have ht9 : t < 9 := by
      rcases Nat.lt_or_ge t 9 with h | h
      · exact h
      · rw [List.getElem?_eq_none (by simp [encTr]; omega)] at ht; cases ht
    rw [Nat.add_assoc]
    refine hc _ _ ((flat_get encTr_len l i t hi ht9).trans ?_)
    simpa using ht

theorem chainFull_in (n : Nat) (hn : n ≤ 40) (a b : Int) (ha : (Lit.int .i64 a).wf = true) (hb : (Lit.int .i64 b).wf = true) (w : World) (hg : HandleAt w) : Calls Tryd.prog 4 #[.int .i64 n, .int .i64 a, .int .i64 b] w fun e w' => e = .returned (.bool true) ∧ Ext w w' := by
  have hnew := chainNew_nil w
  have hm : ∀ W, Calls Tryd.prog 5 #[.int .i64 40] W fun e w' => ∃ p c, e = .returned (.slice p 40 c) ∧ OwnSet W.heap.size w' (.slice p 40 c) (manyL 40) ∧ Ext W w' := fun W => (many_any 40 (by decide) W).mono fun e w' ⟨v', h1, h2, h3⟩ => by
    obtain ⟨p, c, rfl⟩ := h2.slice
    rw [manyL_len] at h1 h2
    exact ⟨p, c, h1, h2, h3⟩
  have HG := Lib.hid hg
  clear hg
  go_enter Tryd.func4, Tryd.ntmps4
  go_wp2_with (first | (go_at_call 10; refine hnew.mono ?_; rintro e w1 ⟨cb, vb, rfl, hcb, hch, hx1⟩) | (go_at_call 5; refine (hm _).mono ?_; rintro e w2 ⟨al, cl, rfl, hol, hx2⟩))
  have HC := Lib.hid (And.intro (hch.ext hx2) (hol.mono hx1.size))
  clear hnew hm hch hol
  go_loopw [10] (fun iv wr => ∃ i : Nat, iv = .int .i64 i ∧ i ≤ n ∧ Hid (∃ v ps, ChainAt wr cb w.heap.size vb v [] ps (lineYs (min i 30))) ∧ Hid (OwnSet w.heap.size wr (.slice al 40 cl) (manyL 40)) ∧ Ext w wr) (fun iv _ => n - (intOf iv).toNat)
  case atStart => exact ⟨0, rfl, Nat.zero_le _, Lib.hid ⟨_, _, HC.out.1⟩, Lib.hid HC.out.2, hx1.trans hx2⟩
  case round =>
    obtain ⟨i, rfl, hi, hC, hL, hx⟩ := hrel
    clear HC hx1 hx2
    by_cases hlt : i < n
    · by_cases h30 : i < 30
      · obtain ⟨v, ps, hch⟩ := hC.out
        have hmin : min i 30 = i := by omega
        have hmin2 : min (i + 1) 30 = i + 1 := by omega
        rw [hmin] at hch
        have hlen := hch.len
        rw [lineYs_len] at hlen
        obtain ⟨a', cap, hv, hr⟩ := reads_one_of hL.out.reads i (by rw [manyL_len]; omega)
        cases hv
        have hone := lineOne i (by omega)
        have hty : (manyL 40)[i]'(by rw [manyL_len]; omega) = ⟨⟨1, ⟨#[115]⟩, noText⟩, ⟨1, ⟨#[112]⟩, noText⟩, textTm i⟩ := by simp [manyL]
        rw [hty] at hr
        have hpush := fun W (hW : Ext wr W) => chainPush_ok (hch.ext hW) (.slice (cutA al i cl 9) 1 (cl - i)) (.slice none 0 0) (lyOf (manyL i) (manyL (i + 1))) (by rw [hone]; exact hr.ext hW) (by rw [hone]; exact (OwnSet.nil 0 W).reads) (by omega) (by decide) (lineYs_ok i (by omega)) (by rw [graphL_line i (by omega)]; exact applyErr_of (manyL_ok _ (by omega)) (manyL_ok _ (by omega))) (Nat.le_trans hx.size hW.size) hcb
        have hcl : 40 ≤ cl := by
          obtain ⟨_, _, e1, e2, _⟩ := hL.out.reads
          cases e1
          rw [manyL_len] at e2; exact e2
        have k1 : IntKind.i64.wrap ((i : Int) + 1) = (i : Int) + 1 := IntWalk.i64_in _ (by omega)
        have k2 : (0 : Int) ≤ (i : Int) := by omega
        have k3 : (i : Int) ≤ (i : Int) + 1 := by omega
        have k4 : (i : Int) + 1 ≤ (cl : Int) := by omega
        have k5 : ((i : Int) + 1).toNat = i + 1 := by omega
        have k6 : i + 1 - i = 1 := by omega
        have k7 : (i : Int) < 30 := by omega
        have HP := Lib.hid (And.intro hpush (And.intro hmin2 hone))
        clear hpush hmin hmin2 hlen hr hone hty hch
        go_wp2_with (first | (go_at_call 11; refine (HP.out.1 _ (Ext.refl wr)).mono ?_; rintro e w3 ⟨rfl, v3, p3, hc3, hk3, hb3⟩; have HF := Lib.hid (And.intro hc3 (And.intro hk3 hb3)); clear hc3 hk3 hb3) | (go_at_call 9; refine (same_nil 4 _).mono ?_; rintro e w4 ⟨rfl, rfl⟩))
        go_roundw
        case rel => exact ⟨i + 1, vi (by omega), hlt, Lib.hid ⟨v3, _, by rw [HP.out.2.1, lineYs_succ]; exact HF.out.1⟩, Lib.hid (HF.out.2.1.own hL.out), Below.trans hx HF.out.2.2⟩
        case measure => simp [intOf]; omega
      · obtain ⟨v, ps, hch⟩ := hC.out
        have hmin : min i 30 = 30 := by omega
        have hmin2 : min (i + 1) 30 = 30 := by omega
        rw [hmin] at hch
        have hlen := hch.len
        rw [lineYs_len] at hlen
        obtain ⟨a', cap, hv, hr⟩ := reads_one_of hL.out.reads i (by rw [manyL_len]; omega)
        cases hv
        have hpush := fun W (hW : Ext wr W) => chainPush_full (hch.ext hW) (.slice (cutA al i cl 9) 1 (cl - i)) (.slice none 0 0) ⟨[_], []⟩ (hr.ext hW) ((OwnSet.nil 0 W).reads) (by omega)
        have hcl : 40 ≤ cl := by
          obtain ⟨_, _, e1, e2, _⟩ := hL.out.reads
          cases e1
          rw [manyL_len] at e2; exact e2
        have k1 : IntKind.i64.wrap ((i : Int) + 1) = (i : Int) + 1 := IntWalk.i64_in _ (by omega)
        have k2 : (0 : Int) ≤ (i : Int) := by omega
        have k3 : (i : Int) ≤ (i : Int) + 1 := by omega
        have k4 : (i : Int) + 1 ≤ (cl : Int) := by omega
        have k5 : ((i : Int) + 1).toNat = i + 1 := by omega
        have k6 : i + 1 - i = 1 := by omega
        have k7 : ¬ (i : Int) < 30 := by omega
        have k8 : (30 : Int) ≤ (i : Int) := by omega
        have HP := Lib.hid (And.intro hpush (And.intro hmin2 hch))
        clear hpush hmin hmin2 hlen hr hch
        go_wp2_with (first | (go_at_call 11; refine (HP.out.1 _ (Ext.refl wr)).mono ?_; rintro e w3 ⟨rfl, hx3⟩) | (go_at_call 9; refine (same_some 4 4 _ (HG.out.ext (hx.trans hx3))).mono ?_; rintro e w4 ⟨rfl, hx4⟩))
        go_roundw
        case rel => exact ⟨i + 1, vi (by omega), hlt, Lib.hid ⟨v, _, by rw [HP.out.2.1]; exact HP.out.2.2.ext (hx3.trans hx4)⟩, Lib.hid (hL.out.ext (hx3.trans hx4)), hx.trans (hx3.trans hx4)⟩
        case measure => simp [intOf]; omega
    · have hin : i = n := by omega
      clear hlt
      obtain ⟨v, ps, hch⟩ := hC.out
      have hlen := hch.len
      rw [lineYs_len] at hlen
      by_cases h30 : i ≤ 30
      · have hmin : min i 30 = i := by omega
        rw [hmin] at hch hlen
        have k1 : ¬ (i : Int) > 30 := by omega
        subst hin
        clear hmin h30
        have hgr : ∀ W, Ext wr W → Calls Tryd.prog 12 #[.pointer (some ⟨cb, 0, none⟩), .int .i64 (i : Int)] W fun e w' => ∃ p c, e = .returned (.tuple #[.slice p i c, .nilIface]) ∧ Ext W w' := fun W hW => by
          have := chainGraphAt_any (hch.ext hW) i (by omega) (by decide) (lineYs_ok i (by omega)) (by rw [lineYs_len]; omega)
          rw [List.take_of_length_le (by rw [lineYs_len]; omega), graphL_line i (by omega), manyL_len] at this
          exact this
        have hln : ∀ W, Ext wr W → Calls Tryd.prog 13 #[.pointer (some ⟨cb, 0, none⟩)] W fun e w' => e = .returned (.int .i64 (i : Int)) ∧ w' = W := fun W hW => by
          have := chainLen_any (hch.ext hW)
          rw [hlen] at this
          exact this
        have hx0 := Ext.refl wr
        by_cases hbad : a < 1 ∨ (i : Int) < b ∨ b < a
        · have hsq : ∀ W, Ext wr W → Calls Tryd.prog 14 #[.pointer (some ⟨cb, 0, none⟩), .int .i64 a, .int .i64 b] W fun e w' => e = .returned (eV 1) ∧ Ext W w' := fun W hW => chainSquash_bad (hch.ext hW) a b (by omega) (by rw [hlen]; exact hbad)
          have HS := Lib.hid (And.intro hgr (And.intro hln hsq))
          clear hgr hln hsq hch hlen hC hL
          by_cases h1 : a < 1
          · clear hbad
            go_wp2_with (first | (go_at_call 12; refine (HS.out.1 _ hx0).mono ?_; rintro e w5 ⟨pg, cg, rfl, hx5⟩) | (go_at_call 13; refine (HS.out.2.1 _ hx5).mono ?_; rintro e w6 ⟨rfl, rfl⟩) | (go_at_call 14; refine (HS.out.2.2 _ hx5).mono ?_; rintro e w7 ⟨rfl, hx7⟩))
            go_ret
            exact ⟨rfl, hx.trans (hx5.trans hx7)⟩
          · by_cases h2 : (i : Int) < b
            · clear hbad
              go_wp2_with (first | (go_at_call 12; refine (HS.out.1 _ hx0).mono ?_; rintro e w5 ⟨pg, cg, rfl, hx5⟩) | (go_at_call 13; refine (HS.out.2.1 _ hx5).mono ?_; rintro e w6 ⟨rfl, rfl⟩) | (go_at_call 14; refine (HS.out.2.2 _ hx5).mono ?_; rintro e w7 ⟨rfl, hx7⟩))
              go_ret
              exact ⟨rfl, hx.trans (hx5.trans hx7)⟩
            · have h3 : b < a := by omega
              clear hbad
              go_wp2_with (first | (go_at_call 12; refine (HS.out.1 _ hx0).mono ?_; rintro e w5 ⟨pg, cg, rfl, hx5⟩) | (go_at_call 13; refine (HS.out.2.1 _ hx5).mono ?_; rintro e w6 ⟨rfl, rfl⟩) | (go_at_call 14; refine (HS.out.2.2 _ hx5).mono ?_; rintro e w7 ⟨rfl, hx7⟩))
              go_ret
              exact ⟨rfl, hx.trans (hx5.trans hx7)⟩
        · obtain ⟨f, hf⟩ : ∃ f : Nat, a = (f : Int) + 1 := ⟨(a - 1).toNat, by omega⟩
          obtain ⟨t, ht⟩ : ∃ t : Nat, b = (t : Int) := ⟨b.toNat, by omega⟩
          have hft : f < t := by omega
          have htk : t ≤ i := by omega
          have hsq : ∀ W, Ext wr W → Calls Tryd.prog 14 #[.pointer (some ⟨cb, 0, none⟩), .int .i64 a, .int .i64 b] W fun e w' => e = .returned .nilIface ∧ ∃ v' p, ChainAt w' cb w.heap.size vb v' [] (ps.take f ++ [p] ++ ps.drop t) ((lineYs i).take f ++ [lyOf (manyL f) (manyL t)] ++ (lineYs i).drop t) ∧ Below w.heap.size W w' := fun W hW => by
            rw [hf, ht]
            refine (chainSquash_ok (hch.ext hW) f t hft (by omega) (by omega) hcb (Nat.le_trans hx.size hW.size) (fun j => lyOf (manyL f) (manyL j)) ?_ (fun j h1 h2 => ?_) ?_).mono fun e w' ⟨h1, v', p, h2, _, h3⟩ => ⟨h1, v', p, h2, h3⟩
            · rw [lineYs_getD _ _ (by omega)]
            · rw [lineYs_getD _ _ (by omega)]
              exact ⟨thenErr_of (manyL_ok _ (by omega)) (manyL_ok _ (by omega)) (manyL_ok _ (by omega)), lyBoth_of (manyL_ok _ (by omega)) (manyL_ok _ (by omega))⟩
            · have := lineLen t (by omega) f (by omega) (by omega)
              omega
          have hpop : ∃ m N : Nat, (m : Int) = (if b = (i : Int) then b - a + 1 else 1) ∧ (N : Int) = (i : Int) - (b - a) - 1 ∧ ∀ W v' p, ChainAt W cb w.heap.size vb v' [] (ps.take f ++ [p] ++ ps.drop t) ((lineYs i).take f ++ [lyOf (manyL f) (manyL t)] ++ (lineYs i).drop t) → w.heap.size ≤ W.heap.size →
              Calls Tryd.prog 15 #[.pointer (some ⟨cb, 0, none⟩)] W fun e w' => ∃ p c q d, e = .returned (.tuple #[.agg #[.slice p m c, .slice q 0 d], .nilIface]) ∧ (∃ v' ps' ys', ps'.length = N ∧ ChainAt w' cb w.heap.size vb v' [] ps' ys') ∧ Below w.heap.size W w' := by
            have hl1 : ((lineYs i).take f).length = f := by rw [List.length_take, lineYs_len]; omega
            refine ⟨(((lineYs i).take f ++ [lyOf (manyL f) (manyL t)] ++ (lineYs i).drop t).getD (f + (i - t)) ⟨[], []⟩).add.length, f + (i - t), ?_, by omega, fun W v' p h hW => ?_⟩
            · by_cases hbk : b = (i : Int)
              · have htk : t = i := by omega
                rw [if_pos hbk]
                have e1 : ((lineYs i).take f ++ [lyOf (manyL f) (manyL t)] ++ (lineYs i).drop t).getD (f + (i - t)) ⟨[], []⟩ = lyOf (manyL f) (manyL t) := by
                  rw [List.getD_eq_getElem?_getD, List.append_assoc, List.getElem?_append_right (by omega), hl1, show f + (i - t) - f = 0 by omega]
                  rfl
                rw [e1, (lineLen t (by omega) f (by omega) (by omega)).1]
                omega
              · rw [if_neg hbk]
                have e1 : ((lineYs i).take f ++ [lyOf (manyL f) (manyL t)] ++ (lineYs i).drop t).getD (f + (i - t)) ⟨[], []⟩ = lyOf (manyL (i - 1)) (manyL (i - 1 + 1)) := by
                  rw [List.getD_eq_getElem?_getD, List.getElem?_append_right (by rw [List.length_append, hl1, List.length_singleton]; omega), List.length_append, hl1, List.length_singleton, List.getElem?_drop, show t + (f + (i - t) - (f + 1)) = i - 1 by omega, ← List.getD_eq_getElem?_getD, lineYs_getD _ _ (by omega)]
                rw [e1, (lineOne (i - 1) (by omega))]
                rfl
            · refine (chainPop_any h (f + (i - t)) (by simp; omega) hcb hW).mono fun e w' ⟨p, c, q, d, h1, ⟨v', h2⟩, _, h3⟩ => ⟨p, c, q, d, ?_, ⟨v', _, _, by simp; omega, h2⟩, h3⟩
              rw [h1]
              have e0 : (((lineYs i).take f ++ [lyOf (manyL f) (manyL t)] ++ (lineYs i).drop t).getD (f + (i - t)) ⟨[], []⟩).take.length = 0 := by
                by_cases hbk : t = i
                · rw [List.getD_eq_getElem?_getD, List.append_assoc, List.getElem?_append_right (by omega), hl1, show f + (i - t) - f = 0 by omega]
                  exact (lineLen t (by omega) f (by omega) (by omega)).2
                · rw [List.getD_eq_getElem?_getD, List.getElem?_append_right (by rw [List.length_append, hl1, List.length_singleton]; omega), List.length_append, hl1, List.length_singleton, List.getElem?_drop, show t + (f + (i - t) - (f + 1)) = i - 1 by omega, ← List.getD_eq_getElem?_getD, lineYs_getD _ _ (by omega), (lineOne (i - 1) (by omega))]
                  rfl
              rw [e0]
          obtain ⟨m, N, hm1, hN, hpop⟩ := hpop
          have hln2 : ∀ W V, (∃ v' ps' ys', ps'.length = N ∧ ChainAt W cb w.heap.size vb v' [] ps' ys') → Ext W V → Calls Tryd.prog 13 #[.pointer (some ⟨cb, 0, none⟩)] V fun e w' => e = .returned (.int .i64 N) ∧ w' = V := fun W V ⟨v', ps', ys', h1, h2⟩ hWV => by
            have := chainLen_any (h2.ext hWV)
            rw [h1] at this
            exact this
          have q1 : IntKind.i64.wrap (b - a) = b - a := IntWalk.i64_in _ (by omega)
          have q2 : IntKind.i64.wrap ((i : Int) - (b - a)) = (i : Int) - (b - a) := IntWalk.i64_in _ (by omega)
          have q3 : IntKind.i64.wrap ((i : Int) - (b - a) - 1) = (i : Int) - (b - a) - 1 := IntWalk.i64_in _ (by omega)
          have q4 : IntKind.i64.wrap (b - a + 1) = b - a + 1 := IntWalk.i64_in _ (by omega)
          have g1 : ¬ a < 1 := by omega
          have g2 : ¬ (i : Int) < b := by omega
          have g3 : ¬ b < a := by omega
          have HS := Lib.hid (And.intro hgr (And.intro hln (And.intro hsq (And.intro hpop hln2))))
          clear hgr hln hsq hpop hln2 hch hlen hC hL hbad hf ht hft htk
          by_cases hbk : b = (i : Int)
          · rw [if_pos hbk] at hm1
            have e1 : (b == (i : Int)) = true := by simp [hbk]
            have e2 : decide (b = (i : Int)) = true := by simp [hbk]
            clear hbk
            go_wp2_with (first | (go_at_call 12; refine (HS.out.1 _ hx0).mono ?_; rintro e w5 ⟨pg, cg, rfl, hx5⟩) | (go_at_call 14; refine (HS.out.2.2.1 _ hx5).mono ?_; rintro e w7 ⟨rfl, v7, p7, hc7, hb7⟩; have HQ := Lib.hid hc7; clear hc7) | (go_at_call 15; refine (HS.out.2.2.2.1 _ _ _ HQ.out (Nat.le_trans (hx.trans hx5).size hb7.size)).mono ?_; rintro e w8 ⟨p8, c8, q8, d8, rfl, hc8, hb8⟩; have HQ8 := Lib.hid hc8; clear hc8 HQ) | (go_at_call 13; first | (refine (HS.out.2.2.2.2 _ _ HQ8.out ((Ext.refl w8).alloc _)).mono ?_; rintro e w9 ⟨rfl, rfl⟩) | (refine (HS.out.2.1 _ hx5).mono ?_; rintro e w6 ⟨rfl, rfl⟩)))
            go_ret
            exact ⟨rfl, Ext.alloc (Below.trans (hx.trans hx5) (Below.trans hb7 hb8)) _⟩
          · rw [if_neg hbk] at hm1
            have e1 : (b == (i : Int)) = false := by simp [hbk]
            have e2 : decide (b = (i : Int)) = false := by simp [hbk]
            clear hbk
            go_wp2_with (first | (go_at_call 12; refine (HS.out.1 _ hx0).mono ?_; rintro e w5 ⟨pg, cg, rfl, hx5⟩) | (go_at_call 14; refine (HS.out.2.2.1 _ hx5).mono ?_; rintro e w7 ⟨rfl, v7, p7, hc7, hb7⟩; have HQ := Lib.hid hc7; clear hc7) | (go_at_call 15; refine (HS.out.2.2.2.1 _ _ _ HQ.out (Nat.le_trans (hx.trans hx5).size hb7.size)).mono ?_; rintro e w8 ⟨p8, c8, q8, d8, rfl, hc8, hb8⟩; have HQ8 := Lib.hid hc8; clear hc8 HQ) | (go_at_call 13; first | (refine (HS.out.2.2.2.2 _ _ HQ8.out ((Ext.refl w8).alloc _)).mono ?_; rintro e w9 ⟨rfl, rfl⟩) | (refine (HS.out.2.1 _ hx5).mono ?_; rintro e w6 ⟨rfl, rfl⟩)))
            go_ret
            exact ⟨rfl, Ext.alloc (Below.trans (hx.trans hx5) (Below.trans hb7 hb8)) _⟩
      · have hmin : min i 30 = 30 := by omega
        rw [hmin] at hch hlen
        have k1 : (i : Int) > 30 := by omega
        subst hin
        clear hmin h30
        have hgr : ∀ W, Ext wr W → Calls Tryd.prog 12 #[.pointer (some ⟨cb, 0, none⟩), .int .i64 30] W fun e w' => ∃ p c, e = .returned (.tuple #[.slice p 30 c, .nilIface]) ∧ Ext W w' := fun W hW => by
          have := chainGraphAt_any (hch.ext hW) 30 (by omega) (by decide) (lineYs_ok 30 (by omega)) (by rw [lineYs_len]; omega)
          rw [List.take_of_length_le (by rw [lineYs_len]; omega), graphL_line 30 (by omega), manyL_len] at this
          exact this
        have hln : ∀ W, Ext wr W → Calls Tryd.prog 13 #[.pointer (some ⟨cb, 0, none⟩)] W fun e w' => e = .returned (.int .i64 30) ∧ w' = W := fun W hW => by
          have := chainLen_any (hch.ext hW)
          rw [hlen] at this
          exact this
        have hx0 := Ext.refl wr
        by_cases hbad : a < 1 ∨ 30 < b ∨ b < a
        · have hsq : ∀ W, Ext wr W → Calls Tryd.prog 14 #[.pointer (some ⟨cb, 0, none⟩), .int .i64 a, .int .i64 b] W fun e w' => e = .returned (eV 1) ∧ Ext W w' := fun W hW => chainSquash_bad (hch.ext hW) a b (by omega) (by rw [hlen]; exact hbad)
          have HS := Lib.hid (And.intro hgr (And.intro hln hsq))
          clear hgr hln hsq hch hlen hC hL
          by_cases h1 : a < 1
          · clear hbad
            go_wp2_with (first | (go_at_call 12; refine (HS.out.1 _ hx0).mono ?_; rintro e w5 ⟨pg, cg, rfl, hx5⟩) | (go_at_call 13; refine (HS.out.2.1 _ hx5).mono ?_; rintro e w6 ⟨rfl, rfl⟩) | (go_at_call 14; refine (HS.out.2.2 _ hx5).mono ?_; rintro e w7 ⟨rfl, hx7⟩))
            go_ret
            exact ⟨rfl, hx.trans (hx5.trans hx7)⟩
          · by_cases h2 : 30 < b
            · clear hbad
              go_wp2_with (first | (go_at_call 12; refine (HS.out.1 _ hx0).mono ?_; rintro e w5 ⟨pg, cg, rfl, hx5⟩) | (go_at_call 13; refine (HS.out.2.1 _ hx5).mono ?_; rintro e w6 ⟨rfl, rfl⟩) | (go_at_call 14; refine (HS.out.2.2 _ hx5).mono ?_; rintro e w7 ⟨rfl, hx7⟩))
              go_ret
              exact ⟨rfl, hx.trans (hx5.trans hx7)⟩
            · have h3 : b < a := by omega
              clear hbad
              go_wp2_with (first | (go_at_call 12; refine (HS.out.1 _ hx0).mono ?_; rintro e w5 ⟨pg, cg, rfl, hx5⟩) | (go_at_call 13; refine (HS.out.2.1 _ hx5).mono ?_; rintro e w6 ⟨rfl, rfl⟩) | (go_at_call 14; refine (HS.out.2.2 _ hx5).mono ?_; rintro e w7 ⟨rfl, hx7⟩))
              go_ret
              exact ⟨rfl, hx.trans (hx5.trans hx7)⟩
        · obtain ⟨f, hf⟩ : ∃ f : Nat, a = (f : Int) + 1 := ⟨(a - 1).toNat, by omega⟩
          obtain ⟨t, ht⟩ : ∃ t : Nat, b = (t : Int) := ⟨b.toNat, by omega⟩
          have hft : f < t := by omega
          have htk : t ≤ 30 := by omega
          have hsq : ∀ W, Ext wr W → Calls Tryd.prog 14 #[.pointer (some ⟨cb, 0, none⟩), .int .i64 a, .int .i64 b] W fun e w' => e = .returned .nilIface ∧ ∃ v' p, ChainAt w' cb w.heap.size vb v' [] (ps.take f ++ [p] ++ ps.drop t) ((lineYs 30).take f ++ [lyOf (manyL f) (manyL t)] ++ (lineYs 30).drop t) ∧ Below w.heap.size W w' := fun W hW => by
            rw [hf, ht]
            refine (chainSquash_ok (hch.ext hW) f t hft (by omega) (by omega) hcb (Nat.le_trans hx.size hW.size) (fun j => lyOf (manyL f) (manyL j)) ?_ (fun j h1 h2 => ?_) ?_).mono fun e w' ⟨h1, v', p, h2, _, h3⟩ => ⟨h1, v', p, h2, h3⟩
            · rw [lineYs_getD _ _ (by omega)]
            · rw [lineYs_getD _ _ (by omega)]
              exact ⟨thenErr_of (manyL_ok _ (by omega)) (manyL_ok _ (by omega)) (manyL_ok _ (by omega)), lyBoth_of (manyL_ok _ (by omega)) (manyL_ok _ (by omega))⟩
            · have := lineLen t (by omega) f (by omega) (by omega)
              omega
          have hpop : ∃ m N : Nat, (m : Int) = (if b = 30 then b - a + 1 else 1) ∧ (N : Int) = 30 - (b - a) - 1 ∧ ∀ W v' p, ChainAt W cb w.heap.size vb v' [] (ps.take f ++ [p] ++ ps.drop t) ((lineYs 30).take f ++ [lyOf (manyL f) (manyL t)] ++ (lineYs 30).drop t) → w.heap.size ≤ W.heap.size →
              Calls Tryd.prog 15 #[.pointer (some ⟨cb, 0, none⟩)] W fun e w' => ∃ p c q d, e = .returned (.tuple #[.agg #[.slice p m c, .slice q 0 d], .nilIface]) ∧ (∃ v' ps' ys', ps'.length = N ∧ ChainAt w' cb w.heap.size vb v' [] ps' ys') ∧ Below w.heap.size W w' := by
            have hl1 : ((lineYs 30).take f).length = f := by rw [List.length_take, lineYs_len]; omega
            refine ⟨(((lineYs 30).take f ++ [lyOf (manyL f) (manyL t)] ++ (lineYs 30).drop t).getD (f + (30 - t)) ⟨[], []⟩).add.length, f + (30 - t), ?_, by omega, fun W v' p h hW => ?_⟩
            · by_cases hbk : b = 30
              · have htk : t = 30 := by omega
                rw [if_pos hbk]
                have e1 : ((lineYs 30).take f ++ [lyOf (manyL f) (manyL t)] ++ (lineYs 30).drop t).getD (f + (30 - t)) ⟨[], []⟩ = lyOf (manyL f) (manyL t) := by
                  rw [List.getD_eq_getElem?_getD, List.append_assoc, List.getElem?_append_right (by omega), hl1, show f + (30 - t) - f = 0 by omega]
                  rfl
                rw [e1, (lineLen t (by omega) f (by omega) (by omega)).1]
                omega
              · rw [if_neg hbk]
                have e1 : ((lineYs 30).take f ++ [lyOf (manyL f) (manyL t)] ++ (lineYs 30).drop t).getD (f + (30 - t)) ⟨[], []⟩ = lyOf (manyL (30 - 1)) (manyL (30 - 1 + 1)) := by
                  rw [List.getD_eq_getElem?_getD, List.getElem?_append_right (by rw [List.length_append, hl1, List.length_singleton]; omega), List.length_append, hl1, List.length_singleton, List.getElem?_drop, show t + (f + (30 - t) - (f + 1)) = 30 - 1 by omega, ← List.getD_eq_getElem?_getD, lineYs_getD _ _ (by omega)]
                rw [e1, (lineOne (30 - 1) (by omega))]
                rfl
            · refine (chainPop_any h (f + (30 - t)) (by simp; omega) hcb hW).mono fun e w' ⟨p, c, q, d, h1, ⟨v', h2⟩, _, h3⟩ => ⟨p, c, q, d, ?_, ⟨v', _, _, by simp; omega, h2⟩, h3⟩
              rw [h1]
              have e0 : (((lineYs 30).take f ++ [lyOf (manyL f) (manyL t)] ++ (lineYs 30).drop t).getD (f + (30 - t)) ⟨[], []⟩).take.length = 0 := by
                by_cases hbk : t = 30
                · rw [List.getD_eq_getElem?_getD, List.append_assoc, List.getElem?_append_right (by omega), hl1, show f + (30 - t) - f = 0 by omega]
                  exact (lineLen t (by omega) f (by omega) (by omega)).2
                · rw [List.getD_eq_getElem?_getD, List.getElem?_append_right (by rw [List.length_append, hl1, List.length_singleton]; omega), List.length_append, hl1, List.length_singleton, List.getElem?_drop, show t + (f + (30 - t) - (f + 1)) = 30 - 1 by omega, ← List.getD_eq_getElem?_getD, lineYs_getD _ _ (by omega), (lineOne (30 - 1) (by omega))]
                  rfl
              rw [e0]
          obtain ⟨m, N, hm1, hN, hpop⟩ := hpop
          have hln2 : ∀ W V, (∃ v' ps' ys', ps'.length = N ∧ ChainAt W cb w.heap.size vb v' [] ps' ys') → Ext W V → Calls Tryd.prog 13 #[.pointer (some ⟨cb, 0, none⟩)] V fun e w' => e = .returned (.int .i64 N) ∧ w' = V := fun W V ⟨v', ps', ys', h1, h2⟩ hWV => by
            have := chainLen_any (h2.ext hWV)
            rw [h1] at this
            exact this
          have q1 : IntKind.i64.wrap (b - a) = b - a := IntWalk.i64_in _ (by omega)
          have q2 : IntKind.i64.wrap (30 - (b - a)) = 30 - (b - a) := IntWalk.i64_in _ (by omega)
          have q3 : IntKind.i64.wrap (30 - (b - a) - 1) = 30 - (b - a) - 1 := IntWalk.i64_in _ (by omega)
          have q4 : IntKind.i64.wrap (b - a + 1) = b - a + 1 := IntWalk.i64_in _ (by omega)
          have g1 : ¬ a < 1 := by omega
          have g2 : ¬ 30 < b := by omega
          have g3 : ¬ b < a := by omega
          have HS := Lib.hid (And.intro hgr (And.intro hln (And.intro hsq (And.intro hpop hln2))))
          clear hgr hln hsq hpop hln2 hch hlen hC hL hbad hf ht hft htk
          by_cases hbk : b = 30
          · rw [if_pos hbk] at hm1
            have e1 : (b == 30) = true := by simp [hbk]
            have e2 : decide (b = 30) = true := by simp [hbk]
            clear hbk
            go_wp2_with (first | (go_at_call 12; refine (HS.out.1 _ hx0).mono ?_; rintro e w5 ⟨pg, cg, rfl, hx5⟩) | (go_at_call 14; refine (HS.out.2.2.1 _ hx5).mono ?_; rintro e w7 ⟨rfl, v7, p7, hc7, hb7⟩; have HQ := Lib.hid hc7; clear hc7) | (go_at_call 15; refine (HS.out.2.2.2.1 _ _ _ HQ.out (Nat.le_trans (hx.trans hx5).size hb7.size)).mono ?_; rintro e w8 ⟨p8, c8, q8, d8, rfl, hc8, hb8⟩; have HQ8 := Lib.hid hc8; clear hc8 HQ) | (go_at_call 13; first | (refine (HS.out.2.2.2.2 _ _ HQ8.out ((Ext.refl w8).alloc _)).mono ?_; rintro e w9 ⟨rfl, rfl⟩) | (refine (HS.out.2.1 _ hx5).mono ?_; rintro e w6 ⟨rfl, rfl⟩)))
            go_ret
            exact ⟨rfl, Ext.alloc (Below.trans (hx.trans hx5) (Below.trans hb7 hb8)) _⟩
          · rw [if_neg hbk] at hm1
            have e1 : (b == 30) = false := by simp [hbk]
            have e2 : decide (b = 30) = false := by simp [hbk]
            clear hbk
            go_wp2_with (first | (go_at_call 12; refine (HS.out.1 _ hx0).mono ?_; rintro e w5 ⟨pg, cg, rfl, hx5⟩) | (go_at_call 14; refine (HS.out.2.2.1 _ hx5).mono ?_; rintro e w7 ⟨rfl, v7, p7, hc7, hb7⟩; have HQ := Lib.hid hc7; clear hc7) | (go_at_call 15; refine (HS.out.2.2.2.1 _ _ _ HQ.out (Nat.le_trans (hx.trans hx5).size hb7.size)).mono ?_; rintro e w8 ⟨p8, c8, q8, d8, rfl, hc8, hb8⟩; have HQ8 := Lib.hid hc8; clear hc8 HQ) | (go_at_call 13; first | (refine (HS.out.2.2.2.2 _ _ HQ8.out ((Ext.refl w8).alloc _)).mono ?_; rintro e w9 ⟨rfl, rfl⟩) | (refine (HS.out.2.1 _ hx5).mono ?_; rintro e w6 ⟨rfl, rfl⟩)))
            go_ret
            exact ⟨rfl, Ext.alloc (Below.trans (hx.trans hx5) (Below.trans hb7 hb8)) _⟩

theorem chainFull_any (n : Int) (_ : (Lit.int .i64 n).wf = true) (a : Int) (ha : (Lit.int .i64 a).wf = true) (b : Int) (hb : (Lit.int .i64 b).wf = true) (w : World) (hg : HandleAt w) :
    Calls Tryd.prog 4 #[.int .i64 n, .int .i64 a, .int .i64 b] w fun e w' => e = .returned (.bool true) ∧ Ext w w' := by
  by_cases h : n < 0 ∨ 40 < n
  · exact chainFull_out n a b w h
  · obtain ⟨k, rfl⟩ : ∃ k : Nat, n = k := ⟨n.toNat, by omega⟩
    exact chainFull_in k (by omega) a b ha hb w hg
end Go.Proofs.YtmobdmljbbckiaaDoor
