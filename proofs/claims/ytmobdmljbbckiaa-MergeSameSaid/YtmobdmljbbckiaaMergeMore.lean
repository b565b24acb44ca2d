/- merge.Merge, merge.Prefer. -/
import Derived.Test.YtmobdmljbbckiaaMergeThree
import Derived.Test.YtmobdmljbbckiaaMergeSamePure
namespace Go.Proofs.Ytmobdmljbbckiaa
open Go.RowKit
set_option maxHeartbeats 1600000
set_option maxRecDepth 100000

theorem right_three (vo va vb : Value) (o a b : List Tr) (w : World) (ho : Reads encTr w vo o) (ha : Reads encTr w va a) (hb : Reads encTr w vb b) (r : Option Int) (hr : rightErr [o, a, b] = r) :
    Calls Try.prog 43 #[.slice (some ⟨w.heap.size, 0, none⟩) 3 3] (w.alloc (.cells #[vo, va, vb] 22)) fun e w' => e = .returned (errV r) ∧ Ext w w' := by
  have h := right_any _ [o, a, b] _ (readsSets_new w [vo, va, vb] [o, a, b] rfl (by simp) (fun j h h' => by
    match j, h with
    | 0, _ => exact ho
    | 1, _ => exact ha
    | 2, _ => exact hb))
  rw [hr] at h
  exact h.mono fun e w' ⟨h1, h2⟩ => ⟨h1, ((Ext.refl w).alloc _).trans h2⟩

section
variable (vo va vb : Value) (o a b : List Tr) (w : World) (ho : Reads encTr w vo o) (ha : Reads encTr w va a) (hb : Reads encTr w vb b)
include ho ha hb

theorem merge_bad (n : Int) (hr : rightErr [o, a, b] = some n) :
    Calls Try.prog 16 #[vo, va, vb] w fun e w' => e = .returned (.tuple #[.slice none 0 0, .slice none 0 0, eV n]) ∧ Ext w w' := by
  have h1 := fun W (hW : Ext w W) => right_three vo va vb o a b W (ho.ext hW) (ha.ext hW) (hb.ext hW) _ hr
  dsimp only [errV] at h1
  obtain ⟨po, co, rfl⟩ := ho.slice
  obtain ⟨pa, ca, rfl⟩ := ha.slice
  obtain ⟨pb, cb, rfl⟩ := hb.slice
  have HH := Lib.hid h1
  clear h1 ho ha hb hr
  have hx0 := Ext.refl w
  go_enter Try.func16, Try.ntmps16
  go_wp2_with (go_at_call 43; refine (HH.out _ hx0).mono ?_; rintro e w1 ⟨rfl, hx1⟩)
  go_ret3
  exact ⟨rfl, hx1⟩

theorem three_ok (first : Bool) (hr : rightErr [o, a, b] = none) : ∀ W, Ext w W →
    Calls Try.prog 49 #[vo, va, vb, .bool first] W fun e w' => ∃ p c q d, e = .returned (.tuple #[.slice p (mOut first o a b).length c, .slice q (mCl o a b).length d]) ∧ Reads encTr w' (.slice p (mOut first o a b).length c) (mOut first o a b) ∧ Ext W w' := fun W hW => by
  obtain ⟨so, sa, sb⟩ := rightErr3 hr
  refine (mergeThree_any vo va vb o a b first W (ho.ext hW) (ha.ext hW) (hb.ext hW) (fun t ht => ckKey_of (so.2.1 t ht)) (fun t ht => ckKey_of (sa.2.1 t ht)) (fun t ht => ckKey_of (sb.2.1 t ht)) (Nat.le_trans so.1 (by decide)) (Nat.le_trans sa.1 (by decide)) (Nat.le_trans sb.1 (by decide))).mono fun e w' ⟨p, c, q, d, K, h1, h2, h3, h4⟩ => ?_
  have hK := h2.eq
  subst hK
  exact ⟨p, c, q, d, h1, h3.reads, h4⟩

theorem merge_clash (hr : rightErr [o, a, b] = none) (hc : 0 < (mCl o a b).length) :
    Calls Try.prog 16 #[vo, va, vb] w fun e w' => ∃ q d, e = .returned (.tuple #[.slice none 0 0, .slice q (mCl o a b).length d, eV 9]) ∧ Ext w w' := by
  have h1 := fun W (hW : Ext w W) => right_three vo va vb o a b W (ho.ext hW) (ha.ext hW) (hb.ext hW) _ hr
  have h2 := three_ok vo va vb o a b w ho ha hb true hr
  dsimp only [errV] at h1
  generalize mOut true o a b = O at h2
  generalize mCl o a b = C at h2 hc ⊢
  obtain ⟨po, co, rfl⟩ := ho.slice
  obtain ⟨pa, ca, rfl⟩ := ha.slice
  obtain ⟨pb, cb, rfl⟩ := hb.slice
  have HH := Lib.hid (And.intro h1 h2)
  clear h1 h2 ho ha hb hr
  have hx0 := Ext.refl w
  have hc' : (C.length : Int) > 0 := by omega
  go_enter Try.func16, Try.ntmps16
  go_wp2_with (first | (go_at_call 43; refine (HH.out.1 _ hx0).mono ?_; rintro e w1 ⟨rfl, hx1⟩) | (go_at_call 49; refine (HH.out.2 _ hx1).mono ?_; rintro e w2 ⟨p, c, q, d, rfl, _, hx2⟩))
  go_ret3
  exact ⟨_, _, rfl, hx1.trans hx2⟩

theorem merge_full (hr : rightErr [o, a, b] = none) (hc : (mCl o a b).length = 0) (hn : 200 < (mOut true o a b).length) :
    Calls Try.prog 16 #[vo, va, vb] w fun e w' => e = .returned (.tuple #[.slice none 0 0, .slice none 0 0, eV 4]) ∧ Ext w w' := by
  have h1 := fun W (hW : Ext w W) => right_three vo va vb o a b W (ho.ext hW) (ha.ext hW) (hb.ext hW) _ hr
  have h2 := three_ok vo va vb o a b w ho ha hb true hr
  dsimp only [errV] at h1
  rw [hc] at h2
  generalize mOut true o a b = O at h2 hn
  obtain ⟨po, co, rfl⟩ := ho.slice
  obtain ⟨pa, ca, rfl⟩ := ha.slice
  obtain ⟨pb, cb, rfl⟩ := hb.slice
  have HH := Lib.hid (And.intro h1 h2)
  clear h1 h2 ho ha hb hr hc
  have hx0 := Ext.refl w
  have hn' : (O.length : Int) > 200 := by omega
  go_enter Try.func16, Try.ntmps16
  go_wp2_with (first | (go_at_call 43; refine (HH.out.1 _ hx0).mono ?_; rintro e w1 ⟨rfl, hx1⟩) | (go_at_call 49; refine (HH.out.2 _ hx1).mono ?_; rintro e w2 ⟨p, c, q, d, rfl, _, hx2⟩))
  go_ret3
  exact ⟨rfl, hx1.trans hx2⟩

theorem merge_ok (hr : rightErr [o, a, b] = none) (hc : (mCl o a b).length = 0) (hn : (mOut true o a b).length ≤ 200) :
    Calls Try.prog 16 #[vo, va, vb] w fun e w' => ∃ p c, e = .returned (.tuple #[.slice p (mOut true o a b).length c, .slice none 0 0, .nilIface]) ∧ Reads encTr w' (.slice p (mOut true o a b).length c) (mOut true o a b) ∧ Ext w w' := by
  have h1 := fun W (hW : Ext w W) => right_three vo va vb o a b W (ho.ext hW) (ha.ext hW) (hb.ext hW) _ hr
  have h2 := three_ok vo va vb o a b w ho ha hb true hr
  dsimp only [errV] at h1
  rw [hc] at h2
  generalize mOut true o a b = O at h2 hn ⊢
  obtain ⟨po, co, rfl⟩ := ho.slice
  obtain ⟨pa, ca, rfl⟩ := ha.slice
  obtain ⟨pb, cb, rfl⟩ := hb.slice
  have HH := Lib.hid (And.intro h1 h2)
  clear h1 h2 ho ha hb hr hc
  have hx0 := Ext.refl w
  have hn' : ¬ (O.length : Int) > 200 := by omega
  go_enter Try.func16, Try.ntmps16
  go_wp2_with (first | (go_at_call 43; refine (HH.out.1 _ hx0).mono ?_; rintro e w1 ⟨rfl, hx1⟩) | (go_at_call 49; refine (HH.out.2 _ hx1).mono ?_; rintro e w2 ⟨p, c, q, d, rfl, hrd, hx2⟩; have HR := Lib.hid hrd; clear hrd))
  go_ret3
  exact ⟨_, _, rfl, HR.out, hx1.trans hx2⟩

theorem prefer_full (first : Bool) (hr : rightErr [o, a, b] = none) (hn : 200 < (mOut first o a b).length) :
    Calls Try.prog 19 #[vo, va, vb, .bool first] w fun e w' => e = .returned (.tuple #[.slice none 0 0, eV 4]) ∧ Ext w w' := by
  have h1 := fun W (hW : Ext w W) => right_three vo va vb o a b W (ho.ext hW) (ha.ext hW) (hb.ext hW) _ hr
  have h2 := three_ok vo va vb o a b w ho ha hb first hr
  dsimp only [errV] at h1
  generalize mOut first o a b = O at h2 hn
  generalize mCl o a b = C at h2
  obtain ⟨po, co, rfl⟩ := ho.slice
  obtain ⟨pa, ca, rfl⟩ := ha.slice
  obtain ⟨pb, cb, rfl⟩ := hb.slice
  have HH := Lib.hid (And.intro h1 h2)
  clear h1 h2 ho ha hb hr
  have hx0 := Ext.refl w
  have hn' : (O.length : Int) > 200 := by omega
  go_enter Try.func19, Try.ntmps19
  go_wp2_with (first | (go_at_call 43; refine (HH.out.1 _ hx0).mono ?_; rintro e w1 ⟨rfl, hx1⟩) | (go_at_call 49; refine (HH.out.2 _ hx1).mono ?_; rintro e w2 ⟨p, c, q, d, rfl, _, hx2⟩))
  go_ret2
  exact ⟨rfl, hx1.trans hx2⟩

theorem prefer_ok (first : Bool) (hr : rightErr [o, a, b] = none) (hn : (mOut first o a b).length ≤ 200) :
    Calls Try.prog 19 #[vo, va, vb, .bool first] w fun e w' => ∃ p c, e = .returned (.tuple #[.slice p (mOut first o a b).length c, .nilIface]) ∧ Reads encTr w' (.slice p (mOut first o a b).length c) (mOut first o a b) ∧ Ext w w' := by
  have h1 := fun W (hW : Ext w W) => right_three vo va vb o a b W (ho.ext hW) (ha.ext hW) (hb.ext hW) _ hr
  have h2 := three_ok vo va vb o a b w ho ha hb first hr
  dsimp only [errV] at h1
  generalize mOut first o a b = O at h2 hn ⊢
  generalize mCl o a b = C at h2
  obtain ⟨po, co, rfl⟩ := ho.slice
  obtain ⟨pa, ca, rfl⟩ := ha.slice
  obtain ⟨pb, cb, rfl⟩ := hb.slice
  have HH := Lib.hid (And.intro h1 h2)
  clear h1 h2 ho ha hb hr
  have hx0 := Ext.refl w
  have hn' : ¬ (O.length : Int) > 200 := by omega
  go_enter Try.func19, Try.ntmps19
  go_wp2_with (first | (go_at_call 43; refine (HH.out.1 _ hx0).mono ?_; rintro e w1 ⟨rfl, hx1⟩) | (go_at_call 49; refine (HH.out.2 _ hx1).mono ?_; rintro e w2 ⟨p, c, q, d, rfl, hrd, hx2⟩; have HR := Lib.hid hrd; clear hrd))
  go_ret2
  exact ⟨_, _, rfl, HR.out, hx1.trans hx2⟩
end
end Go.Proofs.Ytmobdmljbbckiaa
