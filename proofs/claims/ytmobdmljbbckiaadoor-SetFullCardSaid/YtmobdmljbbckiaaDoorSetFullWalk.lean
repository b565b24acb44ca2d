/- The law SetFull walked. -/
import Derived.Test.YtmobdmljbbckiaaDoorSetFullPure
import Derived.Test.YtmobdmljbbckiaaDoorSetJoin
import Derived.Test.YtmobdmljbbckiaaDoorTold
namespace Go.Proofs.YtmobdmljbbckiaaDoor
open Go.RowKit
set_option maxHeartbeats 3200000
set_option maxRecDepth 100000

theorem setFull_out (a b : Int) (w : World) (h : a < 0 ∨ 200 < a ∨ b < 0 ∨ 200 < b) : Calls Tryd.prog 3 #[.int .i64 a, .int .i64 b] w fun e w' => e = .returned (.bool true) ∧ Ext w w' := by
  by_cases h1 : a < 0
  · clear h
    go_enter Tryd.func3, Tryd.ntmps3
    go_wp2
    go_ret
    exact ⟨rfl, Ext.refl _⟩
  · by_cases h2 : 200 < a
    · clear h
      go_enter Tryd.func3, Tryd.ntmps3
      go_wp2
      go_ret
      exact ⟨rfl, Ext.refl _⟩
    · by_cases h3 : b < 0
      · clear h
        go_enter Tryd.func3, Tryd.ntmps3
        go_wp2
        go_ret
        exact ⟨rfl, Ext.refl _⟩
      · have h4 : 200 < b := by omega
        clear h
        go_enter Tryd.func3, Tryd.ntmps3
        go_wp2
        go_ret
        exact ⟨rfl, Ext.refl _⟩

/-- the first cells of one of them, set anew -/
theorem set_head (l : List Tr) (i : Nat) (hi : i < l.length) (t : Tm) : setAt (l.flatMap encTr) (i * 9) (encTm t) = (l.set i ⟨t, l[i].p, l[i].o⟩).flatMap encTr := by
  rw [← flat_set encTr_len l i hi]
  have hlen : i * 9 + 9 ≤ (l.flatMap encTr).length := by rw [flat_len encTr_len]; omega
  apply List.ext_getElem?
  intro u
  rw [setAt_get _ _ _ (by rw [show (encTm t).length = 3 from rfl]; omega), setAt_get _ _ _ (by rw [encTr_len]; exact hlen), encTr_len, show (encTm t).length = 3 from rfl]
  by_cases h1 : i * 9 ≤ u ∧ u < i * 9 + 3
  · rw [if_pos h1, if_pos (by omega)]
    obtain ⟨c, rfl⟩ : ∃ c, u = i * 9 + c := ⟨u - i * 9, by omega⟩
    have hc : c < 3 := by omega
    rw [Nat.add_sub_cancel_left]
    match c, hc with
    | 0, _ => rfl
    | 1, _ => rfl
    | 2, _ => rfl
  · rw [if_neg h1]
    by_cases h2 : i * 9 ≤ u ∧ u < i * 9 + 9
    · rw [if_pos h2]
      obtain ⟨c, rfl⟩ : ∃ c, u = i * 9 + c := ⟨u - i * 9, by omega⟩
      have hc : c < 9 := by omega
      have hc3 : 3 ≤ c := by omega
      rw [Nat.add_sub_cancel_left, flat_get encTr_len l i c hi hc]
      match c, hc, hc3 with
      | 3, _, _ => rfl
      | 4, _, _ => rfl
      | 5, _, _ => rfl
      | 6, _, _ => rfl
      | 7, _, _ => rfl
      | 8, _, _ => rfl
    · rw [if_neg h2]

theorem setFull_in (a b : Nat) (ha : a ≤ 200) (hb : b ≤ 200) (w : World) (hg : HandleAt w) : Calls Tryd.prog 3 #[.int .i64 a, .int .i64 b] w fun e w' => e = .returned (.bool true) ∧ Ext w w' := by
  have hm1 := fun W => (many_any a (by omega) W).mono (R' := fun e w' => ∃ p c, e = .returned (.slice p a c) ∧ OwnSet W.heap.size w' (.slice p a c) (manyL a) ∧ Ext W w') fun e w' ⟨v', h1, h2, h3⟩ => by
    obtain ⟨p, c, rfl⟩ := h2.slice
    rw [manyL_len] at h1 h2
    exact ⟨p, c, h1, h2, h3⟩
  have hm2 := fun W => (many_any b (by omega) W).mono (R' := fun e w' => ∃ p c, e = .returned (.slice p b c) ∧ OwnSet W.heap.size w' (.slice p b c) (mixL b 0) ∧ Ext W w') fun e w' ⟨v', h1, h2, h3⟩ => by
    obtain ⟨p, c, rfl⟩ := h2.slice
    rw [manyL_len] at h1 h2
    exact ⟨p, c, h1, by rw [mixL_zero]; exact h2, h3⟩
  have hnm := fun W => name_any ⟨#[116]⟩ W
  have HM := Lib.hid (And.intro hm1 (And.intro hm2 hg))
  clear hm1 hm2 hg
  have g1 : ¬ (a : Int) < 0 := by omega
  have g2 : ¬ (a : Int) > 200 := by omega
  have g3 : ¬ (b : Int) < 0 := by omega
  have g4 : ¬ (b : Int) > 200 := by omega
  go_enter Tryd.func3, Tryd.ntmps3
  go_upto_region 4 with (go_at_call 5; refine (HM.out.1 _).mono ?_; rintro e w1 ⟨px, cx, rfl, hox, hx1⟩; have HX := Lib.hid hox; clear hox)
  go_upto_region 5 with (go_at_call 5; refine (HM.out.2.1 _).mono ?_; rintro e w2 ⟨py, cy, rfl, hoy, hx2⟩; have HY := Lib.hid hoy; clear hoy)
  clear g1 g2 g3 g4
  go_wp2
  go_loopw [7] (fun jv wr => ∃ j : Nat, jv = .int .i64 j ∧ j ≤ b ∧ Hid (OwnSet w1.heap.size wr (.slice py b cy) (mixL b j)) ∧ Ext w1 wr) (fun jv _ => b - (intOf jv).toNat)
  case atStart => exact ⟨0, rfl, Nat.zero_le _, Lib.hid HY.out, hx2⟩
  case round =>
    obtain ⟨j, rfl, hj, hI, hx⟩ := hrel
    clear HY hx2
    by_cases hlt : j < b
    · have hml := mixL_len b j
      obtain ⟨g, hpy, hgB⟩ : ∃ g, py = some ⟨g, 0, none⟩ ∧ w1.heap.size ≤ g := by
        obtain ⟨_, ⟨h, h0⟩ | ⟨g, cap, cur, h, hgb, _⟩⟩ := hI.out
        · rw [hml] at h0; omega
        · exact ⟨g, (Value.slice.inj h).1, hgb⟩
      have hown : wr.ownsRow w1.heap.size 28 9 (.slice (some ⟨g, 0, none⟩) b cy) b ((mixL b j).flatMap encTr) := by
        have := hI.out
        unfold OwnSet at this
        rw [hml, hpy] at this
        exact this
      have hcl : (mixL b j)[j]'(by rw [hml]; exact hlt) = ⟨nmS, nmP, textTm j⟩ := by rw [mixL_at, if_neg (Nat.lt_irrefl _)]
      have hst := set_head (mixL b j) j (by rw [hml]; exact hlt) nmT
      rw [hcl, mixL_set] at hst
      have fz : ∀ W t, Ext wr W → W.frozen? ⟨g, t, none⟩ = false := fun W t hW => (own_ext hown hW).frozenAt t
      have hat : ∀ c, c < 3 → wr.cell? ⟨g, j * 9 + c, none⟩ = (encTr (⟨nmS, nmP, textTm j⟩ : Tr))[c]? := fun c hc => by
        have h1 := hown.cellAt (j * 9 + c) (by omega)
        rw [h1, flat_get encTr_len (mixL b j) j c (by rw [hml]; exact hlt) (by omega), hcl]
      have d0 : wr.cell? ⟨g, j * 9, none⟩ = some (.int .i64 1) := hat 0 (by omega)
      have d1 : wr.cell? ⟨g, j * 9 + 1, none⟩ = some (.string ⟨#[115]⟩) := hat 1 (by omega)
      have d2 : wr.cell? ⟨g, j * 9 + 2, none⟩ = some (.string noText) := hat 2 (by omega)
      have HO := Lib.hid (And.intro hown (And.intro hst hgB))
      clear hown hst hat hcl hml
      go_wp2_with (go_at_call 6; refine (hnm _).mono ?_; rintro e w3 ⟨rfl, hx3⟩; have f0 := hx3.cell d0; have f1 := hx3.cell d1; have f2 := hx3.cell d2; have fz3 := fun t => fz w3 t hx3; clear d0 d1 d2 fz)
      rw [← hpy]
      go_roundw
      case rel =>
        refine ⟨j + 1, vi (by omega), hlt, ?_, ?_⟩
        · have := own_setCells (encTm nmT) (j * 9) _ _ (own_ext HO.out.1 hx3)
          rw [HO.out.2.1] at this
          refine Lib.hid ?_
          unfold OwnSet
          rw [mixL_len, hpy]
          exact this
        · exact below_setCells HO.out.2.2 (encTm nmT) (j * 9) _ (Ext.trans hx hx3)
      case measure => simp [intOf]; omega
    · have hjb : j = b := by omega
      have hY : Reads encTr wr (.slice py b cy) (mixL b b) := by
        have := hI.out.reads
        rw [hjb] at this
        exact this
      have hX : Reads encTr wr (.slice px a cx) (manyL a) := HX.out.reads.ext hx
      have hr : rightErr [manyL a, mixL b b] = none := by
        unfold rightErr rightErr rightErr
        rw [many_ok200 a (by omega), mix_ok200 b (by omega)]; rfl
      have hT : ∃ m : Nat, (0 < a → (m : Int) = a + 2) ∧ ∀ W, Ext wr W → Calls Tryd.prog 8 #[.slice px a cx] W fun e w' => ∃ p c, e = .returned (.tuple #[.slice p m c, .nilIface]) ∧ Ext W w' :=
        ⟨(termsOf (manyL a)).length, fun h => by rw [terms_len a h ha]; omega, fun W hW => setTerms_ok _ (manyL a) W (hX.ext hW) (many_ok200 a (by omega)) (many_keys a)⟩
      obtain ⟨m, hm, hT⟩ := hT
      have hU := union_mix a b ha hb
      have hx0 := Ext.refl wr
      have q1 : IntKind.i64.wrap ((a : Int) + b) = (a : Int) + b := IntWalk.i64_in _ (by omega)
      have q2 : IntKind.i64.wrap ((a : Int) + 2) = (a : Int) + 2 := IntWalk.i64_in _ (by omega)
      by_cases hab : 200 < a + b
      · have hJ := fun W (hW : Ext wr W) => join_full _ _ (manyL a) (mixL b b) W (hX.ext hW) (hY.ext hW) hr (by omega)
        have hS := fun W (hW : Ext wr W) => same_some 4 4 W (HM.out.2.2.ext ((hx1.trans hx).trans hW))
        have HH := Lib.hid (And.intro hT (And.intro hJ hS))
        clear hT hJ hS hX hY hI hr hU hnm
        have q3 : (a : Int) + b > 200 := by omega
        by_cases h0 : a = 0
        · exact absurd hab (by omega)
        · have q4 : (a : Int) > 0 := by omega
          have hm' := hm (by omega)
          clear hm h0
          go_wp2_with (first | (go_at_call 7; refine (HH.out.2.1 _ hx0).mono ?_; rintro e w5 ⟨rfl, hx5⟩) | (go_at_call 8; refine (HH.out.1 _ hx5).mono ?_; rintro e w6 ⟨p6, c6, rfl, hx6⟩) | (go_at_call 9; refine (HH.out.2.2 _ (hx5.trans hx6)).mono ?_; rintro e w7 ⟨rfl, hx7⟩))
          go_ret
          exact ⟨rfl, ((hx1.trans hx).trans (hx5.trans hx6)).trans hx7⟩
      · have hJ := fun W (hW : Ext wr W) => join_ok _ _ (manyL a) (mixL b b) W (hX.ext hW) (hY.ext hW) hr (by omega)
        rw [hU] at hJ
        have q5 : ((a + b : Nat) : Int) = (a : Int) + b := by omega
        have HH := Lib.hid (And.intro hT hJ)
        clear hT hJ hX hY hI hr hU hnm
        have q3 : ¬ (a : Int) + b > 200 := by omega
        by_cases h0 : a = 0
        · have q4 : ¬ (a : Int) > 0 := by omega
          clear hm h0
          go_wp2_with (first | (go_at_call 7; refine (HH.out.2 _ hx0).mono ?_; rintro e w5 ⟨p5, c5, rfl, hx5⟩) | (go_at_call 8; refine (HH.out.1 _ hx5).mono ?_; rintro e w6 ⟨p6, c6, rfl, hx6⟩))
          go_ret
          exact ⟨rfl, (hx1.trans hx).trans (hx5.trans hx6)⟩
        · have q4 : (a : Int) > 0 := by omega
          have hm' := hm (by omega)
          clear hm h0
          go_wp2_with (first | (go_at_call 7; refine (HH.out.2 _ hx0).mono ?_; rintro e w5 ⟨p5, c5, rfl, hx5⟩) | (go_at_call 8; refine (HH.out.1 _ hx5).mono ?_; rintro e w6 ⟨p6, c6, rfl, hx6⟩))
          go_ret
          exact ⟨rfl, (hx1.trans hx).trans (hx5.trans hx6)⟩

theorem setFull_any (a : Int) (_ : (Lit.int .i64 a).wf = true) (b : Int) (_ : (Lit.int .i64 b).wf = true) (w : World) (hg : HandleAt w) :
    Calls Tryd.prog 3 #[.int .i64 a, .int .i64 b] w fun e w' => e = .returned (.bool true) ∧ Ext w w' := by
  by_cases h : a < 0 ∨ 200 < a ∨ b < 0 ∨ 200 < b
  · exact setFull_out a b w h
  · obtain ⟨k, rfl⟩ : ∃ k : Nat, a = k := ⟨a.toNat, by omega⟩
    obtain ⟨m, rfl⟩ : ∃ m : Nat, b = m := ⟨b.toNat, by omega⟩
    exact setFull_in k m (by omega) (by omega) w hg
end Go.Proofs.YtmobdmljbbckiaaDoor
