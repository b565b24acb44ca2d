/- What match.Vars does to the world. -/
import Derived.Test.YtmobdmljbbckiaaMatchWalks
namespace Go.Proofs.Ytmobdmljbbckiaa
open Go.RowKit
set_option maxHeartbeats 3200000
set_option maxRecDepth 100000

def VarsPost (p : Pat) (w : World) (e : Ending) (w' : World) : Prop :=
  (∃ n, patErr p = some n ∧ e = .returned (.tuple #[.slice none 0 0, eV n]) ∧ Ext w w') ∨
  (patErr p = none ∧ ∃ v, e = .returned (.tuple #[v, .nilIface]) ∧ w'.ownsRow w.heap.size 9 1 v (patVars p).length ((patVars p).map Value.string) ∧ Ext w w')


theorem reads_own {w : World} {base : Nat} {T : TypeId} {v : Value} {l : List ByteArray} (h : w.ownsRow base T 1 v l.length (l.map Value.string)) : Reads encS w v l :=
  Reads.of_owns (by rw [show l.flatMap encS = l.map Value.string from by rw [List.map_eq_flatMap]; rfl]; exact h)

theorem vars_any (p : Pat) (w : World) : Calls Try.prog 22 #[vPat p] w (VarsPost p w) := by
  obtain ⟨i0, hi, hz0, hz1, hz2⟩ : ∃ i, Try.prog.info? 9 = some i ∧ i.zero = some (.string ⟨#[]⟩) ∧ i.size = 1 ∧ i.bytes = 16 := ⟨_, rfl, rfl, rfl, rfl⟩
  obtain ⟨f, hf⟩ : ∃ f, f = p.nth := ⟨_, rfl⟩
  have hP : patErr p = firstErr (fun i => slotErr (f i)) 3 ∧ patVars p = varsTo f 3 := by subst hf; exact ⟨rfl, rfl⟩
  have h0 : f 0 = p.s := by subst hf; rfl
  have h1 : f 1 = p.p := by subst hf; rfl
  have h2 : f 2 = p.o := by subst hf; rfl
  have hslots := fun W => slots_any p W
  obtain ⟨P0, hP0⟩ : ∃ P0, P0 = p := ⟨_, rfl⟩
  rw [← hP0] at hP
  rw [show VarsPost p w = VarsPost P0 w by rw [hP0]]
  clear hP0 hf
  have HP := Lib.hid hP
  clear hP
  obtain ⟨⟨v1, ⟨k1, s1, g1⟩⟩, ⟨v2, ⟨k2, s2, g2⟩⟩, ⟨v3, ⟨k3, s3, g3⟩⟩⟩ := p
  dsimp only at *
  have HF := Lib.hid (And.intro h0 (And.intro h1 h2))
  have HS := Lib.hid hslots
  clear h0 h1 h2 hslots
  go_enter Try.func22, Try.ntmps22
  go_wp2_with (go_at_call 30; refine (HS.out _).mono ?_; rintro e w1 ⟨rfl, hx1⟩)
  have hx0 := ((Ext.refl w).alloc (.cells #[.string v1, .int .i64 k1, .string s1, .string g1, .string v2, .int .i64 k2, .string s2, .string g2, .string v3, .int .i64 k3, .string s3, .string g3] 32)).trans hx1
  clear hx1
  go_loopw [4, 10] (fun u4 jv wr => ∃ (j : Nat) (ji : Int), jv = .int .i64 ji ∧ ji = (j : Int) ∧ j ≤ 3 ∧ Hid (∀ i, i < j → slotErr (f i) = none) ∧ wr.ownsRow w.heap.size 9 1 u4 (varsTo f j).length ((varsTo f j).map Value.string) ∧ Ext w wr) (fun _ jv _ => 3 - (intOf jv).toNat)
  case atStart => exact ⟨0, 0, rfl, rfl, by omega, (fun i hi => absurd hi (Nat.not_lt_zero _)), World.ownsRow_nil _ _ _ _, hx0⟩
  case round =>
    obtain ⟨j, ji, rfl, hji, hj, hb, hown, hx⟩ := hrel
    clear hx0
    have hjj : j = 0 ∨ j = 1 ∨ j = 2 ∨ j = 3 := by omega
    rcases hjj with rfl | rfl | rfl | rfl
    · obtain rfl : ji = 0 := by omega
      clear hji hj
      have hfj : f 0 = ⟨v1, ⟨k1, s1, g1⟩⟩ := by exact HF.out.1
      have hle := varsTo_le f 0
      have HJ := Lib.hid hfj
      clear hfj
      cases hE : (v1).toList.isEmpty with
      | true =>
        have h0 : (v1).size = 0 := by rw [isEmpty_toList] at hE; simpa using hE
        have HZ := Lib.hid h0
        clear h0
        have hchk := fun W => termCheck_any ⟨k1, s1, g1⟩ W
        cases hT : tmErr ⟨k1, s1, g1⟩ with
        | some n =>
          rw [hT] at hchk
          dsimp only [errV] at hchk
          have HC := Lib.hid (And.intro hchk hT)
          clear hchk hT
          go_wp2_with (go_at_call 36; refine (HC.out.1 _).mono ?_; rintro e w1 ⟨rfl, hx1⟩)
          have hfj := HJ.out
          go_ret2
          refine .inl ⟨n, ?_, rfl, (hx.alloc _).trans hx1⟩
          exact (HP.out.1).trans (firstErr_hit (k := 0) (by rw [hfj]; unfold slotErr; dsimp only; rw [if_pos HZ.out]; exact HC.out.2) hb.out (by omega))
        | none =>
          rw [hT] at hchk
          dsimp only [errV] at hchk
          have HC := Lib.hid (And.intro hchk hT)
          clear hchk hT
          go_wp2_with (go_at_call 36; refine (HC.out.1 _).mono ?_; rintro e w1 ⟨rfl, hx1⟩)
          have hfj := HJ.out
          go_roundw
          case rel =>
            refine ⟨0 + 1, _, rfl, rfl, by omega, (fun i hi => ?_), ?_, (hx.alloc _).trans hx1⟩
            · by_cases e : i = 0
              · subst e; rw [hfj]; unfold slotErr; dsimp only; rw [if_pos HZ.out]; exact HC.out.2
              · exact hb.out i (by omega)
            · have hv : varsTo f (0 + 1) = varsTo f 0 := by show addVar (varsTo f 0) (f 0) = _; rw [hfj]; unfold addVar; dsimp only; rw [if_pos HZ.out]
              rw [hv]; exact own_ext hown ((Ext.refl _).alloc _ |>.trans hx1)
          case measure => simp [intOf]
      | false =>
        have h0 : (v1).size ≠ 0 := fun h => by rw [isEmpty_toList] at hE; simp [h] at hE
        have HZ := Lib.hid h0
        clear h0
        have hwd := fun W => word_any v1 W
        cases hW : isWord v1 with
        | false =>
          rw [hW] at hwd
          have HC := Lib.hid (And.intro hwd hW)
          clear hwd hW
          go_wp2_with (go_at_call 59; refine (HC.out.1 _).mono ?_; rintro e w1 ⟨rfl, hx1⟩)
          have hfj := HJ.out
          go_ret2
          refine .inl ⟨2, ?_, rfl, (hx.alloc _).trans hx1⟩
          exact (HP.out.1).trans (firstErr_hit (k := 0) (by rw [hfj]; unfold slotErr; dsimp only; rw [if_neg HZ.out, HC.out.2]; rfl) hb.out (by omega))
        | true =>
          rw [hW] at hwd
          have HC := Lib.hid (And.intro hwd hW)
          clear hwd hW
          go_upto_region 11 with (go_at_call 59; refine (HC.out.1 _).mono ?_; rintro e w1 ⟨rfl, hx1⟩)
          have hh1 := heap_ext hx1 (alloc_heap_new wr (.cells #[.string v1, .int .i64 k1, .string s1, .string g1] 30))
          have A1 := cells_at hh1
          have hx2 := (hx.alloc (.cells #[.string v1, .int .i64 k1, .string s1, .string g1] 30)).trans hx1
          have hown1 := own_ext hown ((Ext.refl _).alloc (.cells #[.string v1, .int .i64 k1, .string s1, .string g1] 30) |>.trans hx1)
          clear hown hx
          cases hq : tmEq ⟨k1, s1, g1⟩ ⟨0, noText, noText⟩ with
          | false =>
            go_wp2
            have hfj := HJ.out
            go_ret2
            refine .inl ⟨3, ?_, rfl, hx2⟩
            exact (HP.out.1).trans (firstErr_hit (k := 0) (by rw [hfj]; unfold slotErr; dsimp only; rw [if_neg HZ.out, HC.out.2, if_pos rfl]; unfold noTm; rw [hq]; rfl) hb.out (by omega))
          | true =>
            have hsl : slotErr ⟨v1, ⟨k1, s1, g1⟩⟩ = none := by unfold slotErr; dsimp only; rw [if_neg HZ.out, HC.out.2, if_pos rfl]; unfold noTm; rw [hq]; rfl
            have HSL := Lib.hid hsl
            clear hsl
            have hct := fun W (hW : Ext w1 W) => contains_str u4 (varsTo f 0) v1 W ((reads_own hown1).ext hW)
            cases hB : ((varsTo f 0).any fun x => decide (v1 = x)) with
            | true =>
              rw [hB] at hct
              have HN := Lib.hid (And.intro hct hB)
              clear hct hB
              go_wp2_with (go_at_call 60; refine (HN.out.1 _ (Ext.refl _)).mono ?_; rintro e w2 ⟨rfl, hx3⟩)
              have hfj := HJ.out
              go_roundw
              case rel =>
                refine ⟨0 + 1, _, rfl, rfl, by omega, (fun i hi => ?_), ?_, hx2.trans hx3⟩
                · by_cases e : i = 0
                  · subst e; rw [hfj]; exact HSL.out
                  · exact hb.out i (by omega)
                · have hv : varsTo f (0 + 1) = varsTo f 0 := by show addVar (varsTo f 0) (f 0) = _; rw [hfj]; unfold addVar; dsimp only; rw [if_neg HZ.out, HN.out.2, if_pos rfl]
                  rw [hv]; exact own_ext hown1 hx3
              case measure => simp [intOf]
            | false =>
              rw [hB] at hct
              have HN := Lib.hid (And.intro hct hB)
              clear hct hB
              go_upto_region 14 with (go_at_call 60; refine (HN.out.1 _ (Ext.refl _)).mono ?_; rintro e w2 ⟨rfl, hx3⟩)
              have A2 := cells_at (heap_ext hx3 hh1)
              have hown2 := own_ext hown1 hx3
              have hx4 := hx2.trans hx3
              clear A1 hh1 hown1 hx2 hx3
              go_wp2_with (at_builtin; refine wpList_append_own _ rfl _ _ 23 rfl w.heap.size 9 i0 (.string ⟨#[]⟩) 1 16 Try.underlying23 hi hz0 hz1 hz2 rfl (by decide) _ _ _ rfl (hown2.alloc _) ⟨w2.heap.size, 0, none⟩ 1 1 [.string v1] rfl rfl ?c1 ?c2 ?c3 ?c4 ?c5 ?_)
              case c1 => exact cell_one_new _ _ _
              case c2 => simp [Value.oneCell']
              case c3 => unfold maxLen; omega
              case c4 => omega
              case c5 => have := hx4.size; simp; omega
              intro v' w3 hown3 hgrow _
              have hx5 : Ext w w3 := (hx4.alloc _).grown hgrow (by have := hx4.size; simp; omega) (fun j hj => (hown2.lt j hj).1)
              clear hgrow
              go_wp2
              have hfj := HJ.out
              go_roundw
              case rel =>
                refine ⟨0 + 1, _, rfl, rfl, by omega, (fun i hi => ?_), ?_, hx5⟩
                · by_cases e : i = 0
                  · subst e; rw [hfj]; exact HSL.out
                  · exact hb.out i (by omega)
                · have hv : varsTo f (0 + 1) = varsTo f 0 ++ [v1] := by show addVar (varsTo f 0) (f 0) = _; rw [hfj]; unfold addVar; dsimp only; rw [if_neg HZ.out, HN.out.2]; rfl
                  rw [hv]; simpa using hown3
              case measure => simp [intOf]
    · obtain rfl : ji = 1 := by omega
      clear hji hj
      have hfj : f 1 = ⟨v2, ⟨k2, s2, g2⟩⟩ := by exact HF.out.2.1
      have hle := varsTo_le f 1
      have HJ := Lib.hid hfj
      clear hfj
      cases hE : (v2).toList.isEmpty with
      | true =>
        have h0 : (v2).size = 0 := by rw [isEmpty_toList] at hE; simpa using hE
        have HZ := Lib.hid h0
        clear h0
        have hchk := fun W => termCheck_any ⟨k2, s2, g2⟩ W
        cases hT : tmErr ⟨k2, s2, g2⟩ with
        | some n =>
          rw [hT] at hchk
          dsimp only [errV] at hchk
          have HC := Lib.hid (And.intro hchk hT)
          clear hchk hT
          go_wp2_with (go_at_call 36; refine (HC.out.1 _).mono ?_; rintro e w1 ⟨rfl, hx1⟩)
          have hfj := HJ.out
          go_ret2
          refine .inl ⟨n, ?_, rfl, (hx.alloc _).trans hx1⟩
          exact (HP.out.1).trans (firstErr_hit (k := 1) (by rw [hfj]; unfold slotErr; dsimp only; rw [if_pos HZ.out]; exact HC.out.2) hb.out (by omega))
        | none =>
          rw [hT] at hchk
          dsimp only [errV] at hchk
          have HC := Lib.hid (And.intro hchk hT)
          clear hchk hT
          go_wp2_with (go_at_call 36; refine (HC.out.1 _).mono ?_; rintro e w1 ⟨rfl, hx1⟩)
          have hfj := HJ.out
          go_roundw
          case rel =>
            refine ⟨1 + 1, _, rfl, rfl, by omega, (fun i hi => ?_), ?_, (hx.alloc _).trans hx1⟩
            · by_cases e : i = 1
              · subst e; rw [hfj]; unfold slotErr; dsimp only; rw [if_pos HZ.out]; exact HC.out.2
              · exact hb.out i (by omega)
            · have hv : varsTo f (1 + 1) = varsTo f 1 := by show addVar (varsTo f 1) (f 1) = _; rw [hfj]; unfold addVar; dsimp only; rw [if_pos HZ.out]
              rw [hv]; exact own_ext hown ((Ext.refl _).alloc _ |>.trans hx1)
          case measure => simp [intOf]
      | false =>
        have h0 : (v2).size ≠ 0 := fun h => by rw [isEmpty_toList] at hE; simp [h] at hE
        have HZ := Lib.hid h0
        clear h0
        have hwd := fun W => word_any v2 W
        cases hW : isWord v2 with
        | false =>
          rw [hW] at hwd
          have HC := Lib.hid (And.intro hwd hW)
          clear hwd hW
          go_wp2_with (go_at_call 59; refine (HC.out.1 _).mono ?_; rintro e w1 ⟨rfl, hx1⟩)
          have hfj := HJ.out
          go_ret2
          refine .inl ⟨2, ?_, rfl, (hx.alloc _).trans hx1⟩
          exact (HP.out.1).trans (firstErr_hit (k := 1) (by rw [hfj]; unfold slotErr; dsimp only; rw [if_neg HZ.out, HC.out.2]; rfl) hb.out (by omega))
        | true =>
          rw [hW] at hwd
          have HC := Lib.hid (And.intro hwd hW)
          clear hwd hW
          go_upto_region 11 with (go_at_call 59; refine (HC.out.1 _).mono ?_; rintro e w1 ⟨rfl, hx1⟩)
          have hh1 := heap_ext hx1 (alloc_heap_new wr (.cells #[.string v2, .int .i64 k2, .string s2, .string g2] 30))
          have A1 := cells_at hh1
          have hx2 := (hx.alloc (.cells #[.string v2, .int .i64 k2, .string s2, .string g2] 30)).trans hx1
          have hown1 := own_ext hown ((Ext.refl _).alloc (.cells #[.string v2, .int .i64 k2, .string s2, .string g2] 30) |>.trans hx1)
          clear hown hx
          cases hq : tmEq ⟨k2, s2, g2⟩ ⟨0, noText, noText⟩ with
          | false =>
            go_wp2
            have hfj := HJ.out
            go_ret2
            refine .inl ⟨3, ?_, rfl, hx2⟩
            exact (HP.out.1).trans (firstErr_hit (k := 1) (by rw [hfj]; unfold slotErr; dsimp only; rw [if_neg HZ.out, HC.out.2, if_pos rfl]; unfold noTm; rw [hq]; rfl) hb.out (by omega))
          | true =>
            have hsl : slotErr ⟨v2, ⟨k2, s2, g2⟩⟩ = none := by unfold slotErr; dsimp only; rw [if_neg HZ.out, HC.out.2, if_pos rfl]; unfold noTm; rw [hq]; rfl
            have HSL := Lib.hid hsl
            clear hsl
            have hct := fun W (hW : Ext w1 W) => contains_str u4 (varsTo f 1) v2 W ((reads_own hown1).ext hW)
            cases hB : ((varsTo f 1).any fun x => decide (v2 = x)) with
            | true =>
              rw [hB] at hct
              have HN := Lib.hid (And.intro hct hB)
              clear hct hB
              go_wp2_with (go_at_call 60; refine (HN.out.1 _ (Ext.refl _)).mono ?_; rintro e w2 ⟨rfl, hx3⟩)
              have hfj := HJ.out
              go_roundw
              case rel =>
                refine ⟨1 + 1, _, rfl, rfl, by omega, (fun i hi => ?_), ?_, hx2.trans hx3⟩
                · by_cases e : i = 1
                  · subst e; rw [hfj]; exact HSL.out
                  · exact hb.out i (by omega)
                · have hv : varsTo f (1 + 1) = varsTo f 1 := by show addVar (varsTo f 1) (f 1) = _; rw [hfj]; unfold addVar; dsimp only; rw [if_neg HZ.out, HN.out.2, if_pos rfl]
                  rw [hv]; exact own_ext hown1 hx3
              case measure => simp [intOf]
            | false =>
              rw [hB] at hct
              have HN := Lib.hid (And.intro hct hB)
              clear hct hB
              go_upto_region 14 with (go_at_call 60; refine (HN.out.1 _ (Ext.refl _)).mono ?_; rintro e w2 ⟨rfl, hx3⟩)
              have A2 := cells_at (heap_ext hx3 hh1)
              have hown2 := own_ext hown1 hx3
              have hx4 := hx2.trans hx3
              clear A1 hh1 hown1 hx2 hx3
              go_wp2_with (at_builtin; refine wpList_append_own _ rfl _ _ 23 rfl w.heap.size 9 i0 (.string ⟨#[]⟩) 1 16 Try.underlying23 hi hz0 hz1 hz2 rfl (by decide) _ _ _ rfl (hown2.alloc _) ⟨w2.heap.size, 0, none⟩ 1 1 [.string v2] rfl rfl ?c1 ?c2 ?c3 ?c4 ?c5 ?_)
              case c1 => exact cell_one_new _ _ _
              case c2 => simp [Value.oneCell']
              case c3 => unfold maxLen; omega
              case c4 => omega
              case c5 => have := hx4.size; simp; omega
              intro v' w3 hown3 hgrow _
              have hx5 : Ext w w3 := (hx4.alloc _).grown hgrow (by have := hx4.size; simp; omega) (fun j hj => (hown2.lt j hj).1)
              clear hgrow
              go_wp2
              have hfj := HJ.out
              go_roundw
              case rel =>
                refine ⟨1 + 1, _, rfl, rfl, by omega, (fun i hi => ?_), ?_, hx5⟩
                · by_cases e : i = 1
                  · subst e; rw [hfj]; exact HSL.out
                  · exact hb.out i (by omega)
                · have hv : varsTo f (1 + 1) = varsTo f 1 ++ [v2] := by show addVar (varsTo f 1) (f 1) = _; rw [hfj]; unfold addVar; dsimp only; rw [if_neg HZ.out, HN.out.2]; rfl
                  rw [hv]; simpa using hown3
              case measure => simp [intOf]
    · obtain rfl : ji = 2 := by omega
      clear hji hj
      have hfj : f 2 = ⟨v3, ⟨k3, s3, g3⟩⟩ := by exact HF.out.2.2
      have hle := varsTo_le f 2
      have HJ := Lib.hid hfj
      clear hfj
      cases hE : (v3).toList.isEmpty with
      | true =>
        have h0 : (v3).size = 0 := by rw [isEmpty_toList] at hE; simpa using hE
        have HZ := Lib.hid h0
        clear h0
        have hchk := fun W => termCheck_any ⟨k3, s3, g3⟩ W
        cases hT : tmErr ⟨k3, s3, g3⟩ with
        | some n =>
          rw [hT] at hchk
          dsimp only [errV] at hchk
          have HC := Lib.hid (And.intro hchk hT)
          clear hchk hT
          go_wp2_with (go_at_call 36; refine (HC.out.1 _).mono ?_; rintro e w1 ⟨rfl, hx1⟩)
          have hfj := HJ.out
          go_ret2
          refine .inl ⟨n, ?_, rfl, (hx.alloc _).trans hx1⟩
          exact (HP.out.1).trans (firstErr_hit (k := 2) (by rw [hfj]; unfold slotErr; dsimp only; rw [if_pos HZ.out]; exact HC.out.2) hb.out (by omega))
        | none =>
          rw [hT] at hchk
          dsimp only [errV] at hchk
          have HC := Lib.hid (And.intro hchk hT)
          clear hchk hT
          go_wp2_with (go_at_call 36; refine (HC.out.1 _).mono ?_; rintro e w1 ⟨rfl, hx1⟩)
          have hfj := HJ.out
          go_roundw
          case rel =>
            refine ⟨2 + 1, _, rfl, rfl, by omega, (fun i hi => ?_), ?_, (hx.alloc _).trans hx1⟩
            · by_cases e : i = 2
              · subst e; rw [hfj]; unfold slotErr; dsimp only; rw [if_pos HZ.out]; exact HC.out.2
              · exact hb.out i (by omega)
            · have hv : varsTo f (2 + 1) = varsTo f 2 := by show addVar (varsTo f 2) (f 2) = _; rw [hfj]; unfold addVar; dsimp only; rw [if_pos HZ.out]
              rw [hv]; exact own_ext hown ((Ext.refl _).alloc _ |>.trans hx1)
          case measure => simp [intOf]
      | false =>
        have h0 : (v3).size ≠ 0 := fun h => by rw [isEmpty_toList] at hE; simp [h] at hE
        have HZ := Lib.hid h0
        clear h0
        have hwd := fun W => word_any v3 W
        cases hW : isWord v3 with
        | false =>
          rw [hW] at hwd
          have HC := Lib.hid (And.intro hwd hW)
          clear hwd hW
          go_wp2_with (go_at_call 59; refine (HC.out.1 _).mono ?_; rintro e w1 ⟨rfl, hx1⟩)
          have hfj := HJ.out
          go_ret2
          refine .inl ⟨2, ?_, rfl, (hx.alloc _).trans hx1⟩
          exact (HP.out.1).trans (firstErr_hit (k := 2) (by rw [hfj]; unfold slotErr; dsimp only; rw [if_neg HZ.out, HC.out.2]; rfl) hb.out (by omega))
        | true =>
          rw [hW] at hwd
          have HC := Lib.hid (And.intro hwd hW)
          clear hwd hW
          go_upto_region 11 with (go_at_call 59; refine (HC.out.1 _).mono ?_; rintro e w1 ⟨rfl, hx1⟩)
          have hh1 := heap_ext hx1 (alloc_heap_new wr (.cells #[.string v3, .int .i64 k3, .string s3, .string g3] 30))
          have A1 := cells_at hh1
          have hx2 := (hx.alloc (.cells #[.string v3, .int .i64 k3, .string s3, .string g3] 30)).trans hx1
          have hown1 := own_ext hown ((Ext.refl _).alloc (.cells #[.string v3, .int .i64 k3, .string s3, .string g3] 30) |>.trans hx1)
          clear hown hx
          cases hq : tmEq ⟨k3, s3, g3⟩ ⟨0, noText, noText⟩ with
          | false =>
            go_wp2
            have hfj := HJ.out
            go_ret2
            refine .inl ⟨3, ?_, rfl, hx2⟩
            exact (HP.out.1).trans (firstErr_hit (k := 2) (by rw [hfj]; unfold slotErr; dsimp only; rw [if_neg HZ.out, HC.out.2, if_pos rfl]; unfold noTm; rw [hq]; rfl) hb.out (by omega))
          | true =>
            have hsl : slotErr ⟨v3, ⟨k3, s3, g3⟩⟩ = none := by unfold slotErr; dsimp only; rw [if_neg HZ.out, HC.out.2, if_pos rfl]; unfold noTm; rw [hq]; rfl
            have HSL := Lib.hid hsl
            clear hsl
            have hct := fun W (hW : Ext w1 W) => contains_str u4 (varsTo f 2) v3 W ((reads_own hown1).ext hW)
            cases hB : ((varsTo f 2).any fun x => decide (v3 = x)) with
            | true =>
              rw [hB] at hct
              have HN := Lib.hid (And.intro hct hB)
              clear hct hB
              go_wp2_with (go_at_call 60; refine (HN.out.1 _ (Ext.refl _)).mono ?_; rintro e w2 ⟨rfl, hx3⟩)
              have hfj := HJ.out
              go_roundw
              case rel =>
                refine ⟨2 + 1, _, rfl, rfl, by omega, (fun i hi => ?_), ?_, hx2.trans hx3⟩
                · by_cases e : i = 2
                  · subst e; rw [hfj]; exact HSL.out
                  · exact hb.out i (by omega)
                · have hv : varsTo f (2 + 1) = varsTo f 2 := by show addVar (varsTo f 2) (f 2) = _; rw [hfj]; unfold addVar; dsimp only; rw [if_neg HZ.out, HN.out.2, if_pos rfl]
                  rw [hv]; exact own_ext hown1 hx3
              case measure => simp [intOf]
            | false =>
              rw [hB] at hct
              have HN := Lib.hid (And.intro hct hB)
              clear hct hB
              go_upto_region 14 with (go_at_call 60; refine (HN.out.1 _ (Ext.refl _)).mono ?_; rintro e w2 ⟨rfl, hx3⟩)
              have A2 := cells_at (heap_ext hx3 hh1)
              have hown2 := own_ext hown1 hx3
              have hx4 := hx2.trans hx3
              clear A1 hh1 hown1 hx2 hx3
              go_wp2_with (at_builtin; refine wpList_append_own _ rfl _ _ 23 rfl w.heap.size 9 i0 (.string ⟨#[]⟩) 1 16 Try.underlying23 hi hz0 hz1 hz2 rfl (by decide) _ _ _ rfl (hown2.alloc _) ⟨w2.heap.size, 0, none⟩ 1 1 [.string v3] rfl rfl ?c1 ?c2 ?c3 ?c4 ?c5 ?_)
              case c1 => exact cell_one_new _ _ _
              case c2 => simp [Value.oneCell']
              case c3 => unfold maxLen; omega
              case c4 => omega
              case c5 => have := hx4.size; simp; omega
              intro v' w3 hown3 hgrow _
              have hx5 : Ext w w3 := (hx4.alloc _).grown hgrow (by have := hx4.size; simp; omega) (fun j hj => (hown2.lt j hj).1)
              clear hgrow
              go_wp2
              have hfj := HJ.out
              go_roundw
              case rel =>
                refine ⟨2 + 1, _, rfl, rfl, by omega, (fun i hi => ?_), ?_, hx5⟩
                · by_cases e : i = 2
                  · subst e; rw [hfj]; exact HSL.out
                  · exact hb.out i (by omega)
                · have hv : varsTo f (2 + 1) = varsTo f 2 ++ [v3] := by show addVar (varsTo f 2) (f 2) = _; rw [hfj]; unfold addVar; dsimp only; rw [if_neg HZ.out, HN.out.2]; rfl
                  rw [hv]; simpa using hown3
              case measure => simp [intOf]
    · obtain rfl : ji = 3 := by omega
      clear hji hj
      go_wp2
      go_ret2
      exact .inr ⟨(HP.out.1).trans (firstErr_miss fun i hi => hb.out i hi), _, rfl, by rw [HP.out.2]; exact hown, hx⟩
end Go.Proofs.Ytmobdmljbbckiaa
