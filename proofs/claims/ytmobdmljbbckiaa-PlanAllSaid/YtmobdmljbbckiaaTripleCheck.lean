/- What triple.Check and triple.Sorted do to the world. -/
import Derived.Test.YtmobdmljbbckiaaTermCheck
namespace Go.Proofs.Ytmobdmljbbckiaa
open Go.RowKit
set_option maxHeartbeats 3200000
set_option maxRecDepth 100000

/-- the three terms of a triple -/
def Tr.at (t : Tr) : Nat → Tm
  | 0 => t.s
  | 1 => t.p
  | _ => t.o

theorem trErr_hit {t : Tr} {j : Nat} (hj : j < 3) {n : Int} (h : tmErr (t.at j) = some n) (hb : ∀ i, i < j → tmErr (t.at i) = none) : trErr t = some n := by
  match j, hj with
  | 0, _ => simp only [Tr.at] at h; simp [trErr, h]
  | 1, _ => have h0 := hb 0 (by omega); simp only [Tr.at] at h h0; simp [trErr, h, h0]
  | 2, _ => have h0 := hb 0 (by omega); have h1 := hb 1 (by omega); simp only [Tr.at] at h h0 h1; simp [trErr, h, h0, h1]
theorem trErr_miss {t : Tr} (hb : ∀ i, i < 3 → tmErr (t.at i) = none) : trErr t = if trShape t = true then none else some 3 := by
  have h0 := hb 0 (by omega); have h1 := hb 1 (by omega); have h2 := hb 2 (by omega)
  simp only [Tr.at] at h0 h1 h2
  simp [trErr, h0, h1, h2]

theorem neq_errV (o : Option Int) (w : World) : (binOp .neq 36 (errV o) .nilIface).run Try.prog w = .ok (.bool o.isSome) w := by
  cases o with
  | none => exact Go.run_neq_nil_nil w 36 underErr
  | some n => exact Go.run_neq_held_nil w 36 _ _ underErr

theorem tripleCheck_any (t : Tr) (w : World) : Calls Try.prog 50 #[vTr t] w fun e w' => e = .returned (errV (trErr t)) ∧ Ext w w' := by
  obtain ⟨⟨k1, s1, l1⟩, ⟨k2, s2, l2⟩, ⟨k3, s3, l3⟩⟩ := t
  go_enter Try.func50, Try.ntmps50
  go_wp2
  have h2 := alloc_heap_new (w.alloc (.cells #[.int .i64 k1, .string s1, .string l1, .int .i64 k2, .string s2, .string l2, .int .i64 k3, .string s3, .string l3] 82))
    (.cells #[.int .i64 k1, .string s1, .string l1, .int .i64 k2, .string s2, .string l2, .int .i64 k3, .string s3, .string l3] 28)
  have h1 := alloc_heap_old (w.alloc (.cells #[.int .i64 k1, .string s1, .string l1, .int .i64 k2, .string s2, .string l2, .int .i64 k3, .string s3, .string l3] 82))
    (.cells #[.int .i64 k1, .string s1, .string l1, .int .i64 k2, .string s2, .string l2, .int .i64 k3, .string s3, .string l3] 28) _ _ (alloc_heap_new w _)
  have hx := ((Ext.refl w).alloc (.cells #[.int .i64 k1, .string s1, .string l1, .int .i64 k2, .string s2, .string l2, .int .i64 k3, .string s3, .string l3] 82)).alloc
    (.cells #[.int .i64 k1, .string s1, .string l1, .int .i64 k2, .string s2, .string l2, .int .i64 k3, .string s3, .string l3] 28)
  rw [World.size_alloc] at h2
  generalize World.alloc (World.alloc w _) _ = wb at h1 h2 hx ⊢
  go_loopw [14] (fun jv wr => ∃ j : Nat, jv = .int .i64 j ∧ j ≤ 3 ∧ Hid (∀ i, i < j → tmErr ((⟨⟨k1, s1, l1⟩, ⟨k2, s2, l2⟩, ⟨k3, s3, l3⟩⟩ : Tr).at i) = none) ∧ Ext wb wr) (fun jv _ => 3 - (intOf jv).toNat)
  case atStart => exact ⟨0, rfl, by omega, fun i hi => absurd hi (Nat.not_lt_zero _), Ext.refl _⟩
  case round =>
    obtain ⟨j, rfl, hj, hb, hx1⟩ := hrel
    have A := cells_at (heap_ext hx1 h1)
    have B := cells_at (heap_ext hx1 h2)
    clear h1 h2
    rcases Nat.lt_or_ge j 3 with hlt | hge
    · match j, hlt with
      | 0, _ =>
        cases hT : tmErr ⟨k1, s1, l1⟩ with
        | none =>
          have hcall : ∀ W, Calls Try.prog 36 #[vTm ⟨k1, s1, l1⟩] W fun e w' => e = .returned .nilIface ∧ Ext W w' := fun W => by
            have := termCheck_any ⟨k1, s1, l1⟩ W; rw [hT] at this; exact this
          have HC := Lib.hid (And.intro hcall hT)
          clear hcall hT
          go_wp2_with (go_at_call 36; refine (HC.out.1 _).mono ?_; rintro e w1 ⟨rfl, hx2⟩)
          go_roundw
          case rel =>
            refine ⟨0 + 1, vi (by omega), by omega, (fun i hi => ?_), (hx1.alloc _).trans hx2⟩
            by_cases e : i = 0
            · subst e; exact HC.out.2
            · exact hb.out i (by omega)
          case measure => simp [intOf]
        | some n =>
          have hcall : ∀ W, Calls Try.prog 36 #[vTm ⟨k1, s1, l1⟩] W fun e w' => e = .returned (eV n) ∧ Ext W w' := fun W => by
            have := termCheck_any ⟨k1, s1, l1⟩ W; rw [hT] at this; exact this
          have hfin := trErr_hit (t := ⟨⟨k1, s1, l1⟩, ⟨k2, s2, l2⟩, ⟨k3, s3, l3⟩⟩) (j := 0) (by omega) hT hb.out
          have HC := Lib.hid (And.intro hcall hfin)
          clear hcall hT hfin
          go_wp2_with (go_at_call 36; refine (HC.out.1 _).mono ?_; rintro e w1 ⟨rfl, hx2⟩)
          go_ret
          exact ⟨by rw [HC.out.2]; rfl, ((hx.trans hx1).alloc _).trans hx2⟩
      | 1, _ =>
        cases hT : tmErr ⟨k2, s2, l2⟩ with
        | none =>
          have hcall : ∀ W, Calls Try.prog 36 #[vTm ⟨k2, s2, l2⟩] W fun e w' => e = .returned .nilIface ∧ Ext W w' := fun W => by
            have := termCheck_any ⟨k2, s2, l2⟩ W; rw [hT] at this; exact this
          have HC := Lib.hid (And.intro hcall hT)
          clear hcall hT
          go_wp2_with (go_at_call 36; refine (HC.out.1 _).mono ?_; rintro e w1 ⟨rfl, hx2⟩)
          go_roundw
          case rel =>
            refine ⟨1 + 1, vi (by omega), by omega, (fun i hi => ?_), (hx1.alloc _).trans hx2⟩
            by_cases e : i = 1
            · subst e; exact HC.out.2
            · exact hb.out i (by omega)
          case measure => simp [intOf]
        | some n =>
          have hcall : ∀ W, Calls Try.prog 36 #[vTm ⟨k2, s2, l2⟩] W fun e w' => e = .returned (eV n) ∧ Ext W w' := fun W => by
            have := termCheck_any ⟨k2, s2, l2⟩ W; rw [hT] at this; exact this
          have hfin := trErr_hit (t := ⟨⟨k1, s1, l1⟩, ⟨k2, s2, l2⟩, ⟨k3, s3, l3⟩⟩) (j := 1) (by omega) hT hb.out
          have HC := Lib.hid (And.intro hcall hfin)
          clear hcall hT hfin
          go_wp2_with (go_at_call 36; refine (HC.out.1 _).mono ?_; rintro e w1 ⟨rfl, hx2⟩)
          go_ret
          exact ⟨by rw [HC.out.2]; rfl, ((hx.trans hx1).alloc _).trans hx2⟩
      | 2, _ =>
        cases hT : tmErr ⟨k3, s3, l3⟩ with
        | none =>
          have hcall : ∀ W, Calls Try.prog 36 #[vTm ⟨k3, s3, l3⟩] W fun e w' => e = .returned .nilIface ∧ Ext W w' := fun W => by
            have := termCheck_any ⟨k3, s3, l3⟩ W; rw [hT] at this; exact this
          have HC := Lib.hid (And.intro hcall hT)
          clear hcall hT
          go_wp2_with (go_at_call 36; refine (HC.out.1 _).mono ?_; rintro e w1 ⟨rfl, hx2⟩)
          go_roundw
          case rel =>
            refine ⟨2 + 1, vi (by omega), by omega, (fun i hi => ?_), (hx1.alloc _).trans hx2⟩
            by_cases e : i = 2
            · subst e; exact HC.out.2
            · exact hb.out i (by omega)
          case measure => simp [intOf]
        | some n =>
          have hcall : ∀ W, Calls Try.prog 36 #[vTm ⟨k3, s3, l3⟩] W fun e w' => e = .returned (eV n) ∧ Ext W w' := fun W => by
            have := termCheck_any ⟨k3, s3, l3⟩ W; rw [hT] at this; exact this
          have hfin := trErr_hit (t := ⟨⟨k1, s1, l1⟩, ⟨k2, s2, l2⟩, ⟨k3, s3, l3⟩⟩) (j := 2) (by omega) hT hb.out
          have HC := Lib.hid (And.intro hcall hfin)
          clear hcall hT hfin
          go_wp2_with (go_at_call 36; refine (HC.out.1 _).mono ?_; rintro e w1 ⟨rfl, hx2⟩)
          go_ret
          exact ⟨by rw [HC.out.2]; rfl, ((hx.trans hx1).alloc _).trans hx2⟩
    · have hj3 : j = 3 := by omega
      subst hj3
      have hfin := trErr_miss hb.out
      cases hsh : trShape ⟨⟨k1, s1, l1⟩, ⟨k2, s2, l2⟩, ⟨k3, s3, l3⟩⟩
      all_goals
        rw [hsh] at hfin
        have hcall := fun W => tripleShape_any ⟨⟨k1, s1, l1⟩, ⟨k2, s2, l2⟩, ⟨k3, s3, l3⟩⟩ W
        rw [hsh] at hcall
        have HF := Lib.hid (And.intro hfin hcall)
        clear hfin hcall hsh
        go_wp2_with (go_at_call 87; refine (HF.out.2 _).mono ?_; rintro e w3 ⟨rfl, hx3⟩)
        go_ret
        exact ⟨by rw [HF.out.1]; rfl, (hx.trans hx1).trans hx3⟩

end Go.Proofs.Ytmobdmljbbckiaa
