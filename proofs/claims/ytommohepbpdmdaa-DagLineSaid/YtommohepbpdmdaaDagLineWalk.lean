/- The law DagLine, walked: it returns true. -/
import Derived.Test.YtommohepbpdmdaaDagWalks
import Derived.Test.YtommohepbpdmdaaDagLinePure
namespace Go.Proofs.Ytommohepbpdmdaa
open Go.RowKit

theorem infoCommit : (Try.prog.info? 24).map (fun i => (i.zero, i.size, i.bytes)) = some (some (.agg #[.slice none 0 0, .int .i64 0, .string ⟨#[]⟩]), 3, 48) := by kernel_rfl

/-- a commit of the line: its parents lie in a block of their own -/
def Lays (w : World) (c : Cm) : Prop := c.layer = 1 ∧ c.msg = ⟨#[]⟩ ∧
  ((c.pv = .slice none 0 0 ∧ c.ps = []) ∨ ∃ g p, c.pv = .slice (some ⟨g, 0, none⟩) 1 1 ∧ c.ps = [p] ∧ w.heap[g]? = some (.cells #[.int .i64 p] 3 (0, 0)))

theorem Lays.reads {w : World} {c : Cm} (h : Lays w c) : Reads encI w c.pv c.ps := by
  obtain ⟨_, _, ⟨h1, h2⟩ | ⟨g, p, h1, h2, h3⟩⟩ := h
  · rw [h1, h2]; exact Reads.nil _ _ _ _ (Nat.zero_le _)
  · rw [h1, h2]
    refine ⟨_, 1, rfl, Nat.le_refl _, by simp [maxLen], fun _ => ⟨g, 0, rfl, fun t u ht => ?_⟩⟩
    match t, ht with
    | 0, ht => simp [encI] at ht; subst ht; simp [World.cell?, h3]
    | t + 1, ht => simp [encI] at ht

theorem Lays.keep {w w2 w' : World} {c : Cm} (h : Lays w c) {base : Nat} {size : Nat} {v : Value} {n : Nat} {xs : List Value} (ho : w.ownsRow base 24 size v n xs) (hx : Ext w w2) (hg : w2.grownBy w' v.ownBlock) : Lays w' c := by
  obtain ⟨a, b, h | ⟨g, p, h1, h2, h3⟩⟩ := h
  · exact ⟨a, b, .inl h⟩
  · exact ⟨a, b, .inr ⟨g, p, h1, h2, keep_other ho hx hg (by rw [hx.block g (Array.getElem?_eq_some_iff.1 h3).1]; exact h3) (by decide)⟩⟩

/-- the line so far -/
structure SoFar (B : Nat) (w : World) (v : Value) (cs : List Cm) (k : Nat) : Prop where
  len : cs.length = k
  owns : w.ownsRow B 24 3 v cs.length (cs.flatMap encCm)
  lays : ∀ c ∈ cs, Lays w c

theorem SoFar.commits {B : Nat} {w : World} {v : Value} {cs : List Cm} {k : Nat} (h : SoFar B w v cs k) : CommitsAt w v cs :=
  ⟨Reads.of_owns h.owns, fun i hi => (h.lays _ (List.getElem_mem hi)).reads⟩

/-- one commit more, behind the append -/
theorem SoFar.snoc {B : Nat} {w w1 : World} {v v' : Value} {cs : List Cm} {k : Nat} (h : SoFar B w v cs k) (p : Int) (q : Nat)
    (ho : w1.ownsRow B 24 3 v' (cs.length + 1) (cs.flatMap encCm ++ [.slice (some ⟨w.heap.size, 0, none⟩) 1 1, .int .i64 1, .string ⟨#[]⟩]))
    (hg : ((((w.alloc (.cells #[.int .i64 p] 3)).alloc (.cells #[.slice (some ⟨w.heap.size, 0, none⟩) 1 1, .int .i64 1, .string ⟨#[]⟩] 24))).drewN q).grownBy w1 v.ownBlock) :
    SoFar B w1 v' (cs ++ [⟨.slice (some ⟨w.heap.size, 0, none⟩) 1 1, [p], 1, ⟨#[]⟩⟩]) (k + 1) := by
  have hx : Ext w ((((w.alloc (.cells #[.int .i64 p] 3)).alloc (.cells #[.slice (some ⟨w.heap.size, 0, none⟩) 1 1, .int .i64 1, .string ⟨#[]⟩] 24))).drewN q) := (((Ext.refl w).alloc _).alloc _).drewN q
  refine ⟨by simp [h.len], ?_, fun c hc => ?_⟩
  · rw [List.flatMap_append, List.length_append]; exact ho
  · rcases List.mem_append.1 hc with hc | hc
    · exact (h.lays c hc).keep h.owns hx hg
    · simp at hc
      subst hc
      refine ⟨rfl, rfl, .inr ⟨_, _, rfl, rfl, keep_other h.owns hx hg ?_ (by decide)⟩⟩
      show ((w.alloc _).alloc _).heap[w.heap.size]? = _
      rw [Below.heap_alloc _ _ _ (by simp)]
      exact heap_alloc_new w _


set_option maxHeartbeats 1600000 in
set_option maxRecDepth 100000 in
/-- out of range: true at once -/
theorem dagLine_out (n a b : Int) (w : World) (h : n < 1 ∨ n > 58 ∨ a < 0 ∨ a ≥ n ∨ b < 0 ∨ b ≥ n) :
    Calls Try.prog 3 #[.int .i64 n, .int .i64 a, .int .i64 b] w fun e w' => e = .returned (.bool true) ∧ Ext w w' := by
  by_cases h1 : n < 1
  · go_enter Try.func3, Try.ntmps3
    go_wp2
    go_ret
    exact ⟨rfl, Ext.refl _⟩
  by_cases h2 : 58 < n
  · go_enter Try.func3, Try.ntmps3
    go_wp2
    go_ret
    exact ⟨rfl, Ext.refl _⟩
  by_cases h3 : a < 0
  · go_enter Try.func3, Try.ntmps3
    go_wp2
    go_ret
    exact ⟨rfl, Ext.refl _⟩
  by_cases h4 : n ≤ a
  · go_enter Try.func3, Try.ntmps3
    go_wp2
    go_ret
    exact ⟨rfl, Ext.refl _⟩
  by_cases h5 : b < 0
  · go_enter Try.func3, Try.ntmps3
    go_wp2
    go_ret
    exact ⟨rfl, Ext.refl _⟩
  have h6 : n ≤ b := by omega
  go_enter Try.func3, Try.ntmps3
  go_wp2
  go_ret
  exact ⟨rfl, Ext.refl _⟩

set_option maxHeartbeats 3200000 in
set_option maxRecDepth 100000 in
theorem dagLine_in (n a b : Nat) (w : World) (hn : 1 ≤ n) (hn58 : n ≤ 58) (ha : a < n) (hb : b < n) :
    Calls Try.prog 3 #[.int .i64 n, .int .i64 a, .int .i64 b] w fun e w' => e = .returned (.bool true) ∧ Ext w w' := by
  obtain ⟨i0, hi, hz0, hz1, hz2⟩ := info_parts infoCommit
  have d1 : decide ((n : Int) < 1) = false := by simp; omega
  have d2 : decide (58 < (n : Int)) = false := by simp; omega
  have d3 : decide ((a : Int) < 0) = false := by simp
  have d4 : decide ((b : Int) < 0) = false := by simp
  have d5 : decide (n ≤ a) = false := by simp; omega
  have d6 : decide (n ≤ b) = false := by simp; omega
  go_enter Try.func3, Try.ntmps3
  go_wp2
  go_loopg [7, 8] n (fun gg v iv wr => ∃ (k : Nat) (cs : List Cm), iv = .int .i64 k ∧ n - k ≤ gg ∧ 1 ≤ k ∧ k ≤ n ∧ SoFar w.heap.size wr v cs k ∧ Hid (∀ i (hi : i < cs.length), cs[i].ps = if i = 0 then [] else [((i : Int) - 1)]) ∧ Ext w wr)
  case atStart =>
    refine ⟨1, [⟨.slice none 0 0, [], 1, ⟨#[]⟩⟩], rfl, by omega, Nat.le_refl _, hn, ⟨rfl, own_new w _ _ _ 1 3 (Nat.le_refl _) (by simp [maxLen]) rfl, ?_⟩, ?_, (Ext.refl w).alloc _⟩
    · intro c hc; simp at hc; subst hc; exact ⟨rfl, rfl, .inl ⟨rfl, rfl⟩⟩
    · intro i hi; simp at hi; subst hi; rfl
  case round =>
    obtain ⟨k, cs, rfl, hgg, hk1, hkn, hS, hP, hx⟩ := hrel
    have hlen := hS.len
    by_cases hlt : k < n
    · go_wp2_with (at_builtin; refine wpList_append_own _ rfl _ _ 25 rfl w.heap.size 24 i0 _ 3 48 Try.underlying25 hi hz0 hz1 hz2 rfl (by decide) _ _ _ rfl ((hS.owns.alloc _).alloc _) ⟨wr.heap.size + 1, 0, none⟩ 1 1 [.slice (some ⟨wr.heap.size, 0, none⟩) 1 1, .int .i64 1, .string ⟨#[]⟩] rfl rfl ?c1 ?c2 ?c3 ?c4 ?c5 ?_)
      case c1 => exact cells_new _ #[_, _, _] _ _ (by simp)
      case c2 => simp [Value.oneCell']
      case c3 => unfold maxLen; omega
      case c4 => omega
      case c5 => have := hx.size; simp; omega
      intro v' w1 hown' hgrow _
      have hS1 := hS.snoc ((k : Int) - 1) 0 (by rw [hlen]; exact hown') hgrow
      have hx1 : Ext w w1 := ((hx.alloc _).alloc _).grown hgrow (by have := hx.size; simp; omega) (fun j hj => (hS.owns.lt j hj).1)
      clear hgrow hown' hS
      go_wp2
      go_roundg (n - (k + 1))
      case rel =>
        refine ⟨k + 1, _, vi (by omega), by omega, by omega, hlt, hS1, (fun i hi => ?_), hx1⟩
        by_cases e : i < cs.length
        · rw [List.getElem_append_left e]; exact hP.out i e
        · have : i = k := by simp at hi; omega
          subst this
          rw [List.getElem_append_right (by omega)]
          simp [hlen]; omega
      case measure => omega
    · have hkn' : k = n := by omega
      subst hkn'
      go_wp2_with (at_builtin; refine wpList_append_own _ rfl _ _ 25 rfl w.heap.size 24 i0 _ 3 48 Try.underlying25 hi hz0 hz1 hz2 rfl (by decide) _ _ _ rfl ((hS.owns.alloc _).alloc _) ⟨wr.heap.size + 1, 0, none⟩ 1 1 [.slice (some ⟨wr.heap.size, 0, none⟩) 1 1, .int .i64 1, .string ⟨#[]⟩] rfl rfl ?d1 ?d2 ?d3 ?d4 ?d5 ?_)
      case d1 => exact cells_new _ #[_, _, _] _ _ (by simp)
      case d2 => simp [Value.oneCell']
      case d3 => unfold maxLen; omega
      case d4 => omega
      case d5 => have := hx.size; simp; omega
      intro v1 w1 hown1 hgrow1 _
      have hS1 := hS.snoc (a : Int) 0 (by rw [hlen]; exact hown1) hgrow1
      have hx1 : Ext w w1 := ((hx.alloc _).alloc _).grown hgrow1 (by have := hx.size; simp; omega) (fun j hj => (hS.owns.lt j hj).1)
      clear hgrow1 hown1 hS
      generalize hc1 : Cm.mk (.slice (some ⟨wr.heap.size, 0, none⟩) 1 1) [(a : Int)] 1 ⟨#[]⟩ = c1 at hS1
      have hp1 : c1.ps = [(a : Int)] := by rw [← hc1]
      have hlen1 := hS1.len
      clear hc1
      go_wp2_with (at_builtin; refine wpList_append_own _ rfl _ _ 25 rfl w.heap.size 24 i0 _ 3 48 Try.underlying25 hi hz0 hz1 hz2 rfl (by decide) _ _ _ rfl ((hS1.owns.alloc _).alloc _) ⟨w1.heap.size + 1, 0, none⟩ 1 1 [.slice (some ⟨w1.heap.size, 0, none⟩) 1 1, .int .i64 1, .string ⟨#[]⟩] rfl rfl ?e1 ?e2 ?e3 ?e4 ?e5 ?_)
      case e1 => exact cells_new _ #[_, _, _] _ _ (by simp)
      case e2 => simp [Value.oneCell']
      case e3 => rw [hlen1]; unfold maxLen; omega
      case e4 => rw [hlen1]; omega
      case e5 => have := hx1.size; simp; omega
      intro v2 w2 hown2 hgrow2 _
      have hS2 := hS1.snoc (b : Int) 0 (by rw [hlen1, List.flatMap_append, List.append_assoc]; simpa using hown2) hgrow2
      have hx2 : Ext w w2 := ((hx1.alloc _).alloc _).grown hgrow2 (by have := hx1.size; simp; omega) (fun j hj => (hS1.owns.lt j hj).1)
      clear hgrow2 hown2 hS1
      generalize hc2 : Cm.mk (.slice (some ⟨w1.heap.size, 0, none⟩) 1 1) [(b : Int)] 1 ⟨#[]⟩ = c2 at hS2
      have hp2 : c2.ps = [(b : Int)] := by rw [← hc2]
      clear hc2
      have hparAt := line_par hlen hP.out hp1 hp2
      have hlen2 : (cs ++ [c1] ++ [c2]).length = k + 2 := by simp [hlen]
      have hC := hS2.commits
      have hlay := hS2.lays
      clear hS2 hP
      generalize cs ++ [c1] ++ [c2] = l at hparAt hlen2 hC hlay
      have hL : Line l k a b := ⟨hlen2, by rw [hparAt]; simp; omega, fun j h1 h2 => by rw [hparAt, if_pos h2, if_neg (by omega)], by rw [hparAt]; simp, by rw [hparAt, if_neg (by omega), if_neg (by omega), if_pos rfl]⟩
      have hok : okAll l := line_ok hlen2 ha hb hparAt fun c hc => ⟨(hlay c hc).1, (hlay c hc).2.1⟩
      obtain ⟨hlaw1, hlaw2, hlaw3⟩ := hL.bases ha hb hn58
      have hinA : ∀ j, anc l a j = true → j < l.length := fun j hj => by rw [hL.anc_line ha] at hj; simp at hj; omega
      have hinN : ∀ j, anc l k j = true → j < l.length := fun j hj => by rw [hL.anc_left ha] at hj; simp at hj; omega
      have HH := Lib.hid (And.intro hC (And.intro hok (And.intro hinA (And.intro hinN (And.intro hlaw1 (And.intro hlaw2 (And.intro hlaw3 hlen2)))))))
      clear hC hok hinA hinN hlaw1 hlaw2 hlaw3 hL hparAt hlen2 hlay
      clear d1 d2 d3 d4 d5 d6
      have hlen2 := HH.out.2.2.2.2.2.2.2
      have H60 : l.length ≤ 60 := by omega
      have Hal : a < l.length := by omega
      have Hbl : b < l.length := by omega
      have Hkl : k < l.length := by omega
      have Hkl1 : k + 1 < l.length := by omega
      have hsingle : ∀ (low : Nat) (v : Value) (W : World) (B : Nat), W.ownsRow B 3 1 v [(low : Int)].length ([(low : Int)].flatMap encI) → ∃ g cap, v = .slice (some ⟨g, 0, none⟩) 1 cap ∧ W.cell? ⟨g, 0, none⟩ = some (.int .i64 low) := by
        intro low v W B h
        obtain ⟨_, ⟨_, h⟩ | ⟨g, cap, cur, rfl, _, hg, _, _, _, ht⟩⟩ := h
        · cases h
        · refine ⟨g, cap, rfl, ?_⟩
          have h0 := congrArg (fun t => t[0]?) ht
          simp [encI, List.getElem?_take] at h0
          simp [World.cell?, hg, h0]
      have HSG := Lib.hid hsingle
      clear hsingle hlen2
      by_cases hab : b < a
      all_goals
        go_wp2_with fail
        refine (ancestors_ok v2 l a w2 HH.out.1 HH.out.2.1 Hal H60).mono ?_
        rintro e w3 ⟨x, rfl, hown3, hx3⟩
        rw [HH.out.2.2.2.2.1] at hown3
        have hown3' := hown3
        obtain ⟨_, ⟨rfl, hx0⟩ | ⟨xg, xcap, xcur, rfl, _⟩⟩ := hown3'
        · omega
        clear hown3
        go_wp2_with fail
        refine (bases_ok v2 l a b w3 (HH.out.1.ext hx3) HH.out.2.1 Hal Hbl H60 HH.out.2.2.1).mono ?_
        rintro e w4 ⟨y, rfl, hown4, hx4⟩
        rw [HH.out.2.2.2.2.2.1] at hown4
        obtain ⟨yg, ycap, rfl, hy4⟩ := HSG.out _ _ _ _ hown4
        clear hown4
        go_wp2_with fail
        refine (bases_ok v2 l k (k + 1) w4 ((HH.out.1.ext hx3).ext hx4) HH.out.2.1 Hkl Hkl1 H60 HH.out.2.2.2.1).mono ?_
        rintro e w5 ⟨z, rfl, hown5, hx5⟩
        rw [HH.out.2.2.2.2.2.2.1] at hown5
        obtain ⟨zg, zcap, rfl, hz5⟩ := HSG.out _ _ _ _ hown5
        clear hown5
        have hy5 := hx5.cell hy4
        have hxe : Ext w w5 := ((hx2.trans hx3).trans hx4).trans hx5
        go_wp2
        go_ret
        exact ⟨rfl, hxe⟩


theorem dagLine_any (n a b : Int) (w : World) : Calls Try.prog 3 #[.int .i64 n, .int .i64 a, .int .i64 b] w fun e w' => e = .returned (.bool true) ∧ Ext w w' := by
  by_cases h : n < 1 ∨ n > 58 ∨ a < 0 ∨ a ≥ n ∨ b < 0 ∨ b ≥ n
  · exact dagLine_out n a b w h
  · obtain ⟨m, rfl⟩ := Int.eq_ofNat_of_zero_le (show 0 ≤ n by omega)
    obtain ⟨x, rfl⟩ := Int.eq_ofNat_of_zero_le (show 0 ≤ a by omega)
    obtain ⟨y, rfl⟩ := Int.eq_ofNat_of_zero_le (show 0 ≤ b by omega)
    exact dagLine_in m x y w (by omega) (by omega) (by omega) (by omega)

end Go.Proofs.Ytommohepbpdmdaa
