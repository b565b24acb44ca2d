/- The law MatchTwice walked. -/
import Derived.Test.YtommohepbpdmdaaMatch
import Derived.Test.YtommohepbpdmdaaTexts
namespace Go.Proofs.Ytommohepbpdmdaa
open Go.RowKit
set_option maxHeartbeats 3200000
set_option maxRecDepth 100000

abbrev pTwice : Pat := ⟨⟨⟨#[120]⟩, ⟨0, noText, noText⟩⟩, ⟨⟨#[121]⟩, ⟨0, noText, noText⟩⟩, ⟨⟨#[120]⟩, ⟨0, noText, noText⟩⟩⟩
abbrev oneTr : Tr := ⟨⟨1, ⟨#[97]⟩, noText⟩, ⟨1, ⟨#[98]⟩, noText⟩, ⟨1, ⟨#[97]⟩, noText⟩⟩
theorem patErr_twice : patErr pTwice = none := by decide +kernel
theorem fits_twice (t : Tr) : fits t pTwice = tmEq t.s t.o := by
  have h1 : ¬ ((⟨#[120]⟩ : ByteArray) = ⟨#[121]⟩) := by decide
  have h2 : ¬ ((⟨#[121]⟩ : ByteArray) = ⟨#[120]⟩) := by decide
  have z1 : (⟨#[120]⟩ : ByteArray).size = 1 := rfl
  have z2 : (⟨#[121]⟩ : ByteArray).size = 1 := rfl
  simp [fits, roundMiss, slotMiss, pairMiss, Pat.nth, Tr.nth, h1, h2, z1, z2]
theorem count_one : ([oneTr].filter fun t => fits t pTwice).length = 1 := by decide +kernel
theorem err_one : matchErr [oneTr] pTwice = none := by decide +kernel

theorem name_at (s : ByteArray) (w : World) : ∀ W, Ext w W → Calls Try.prog 15 #[.string s] W fun e w' => e = .returned (vTm ⟨1, s, noText⟩) ∧ Ext w w' := fun W hW =>
  (name_any s W).mono fun e w' ⟨h1, h2⟩ => ⟨h1, hW.trans h2⟩
theorem reads_one (w : World) (t : Tr) : Reads encTr (w.alloc (.cells (encTr t).toArray 39)) (.slice (some ⟨w.heap.size, 0, none⟩) 1 1) [t] := by
  refine ⟨_, 1, rfl, Nat.le_refl _, by decide, fun _ => ⟨_, 0, rfl, fun i u hi => ?_⟩⟩
  have := cells_new w (encTr t).toArray 39 w.heap.size rfl i u (by simpa using hi)
  rw [Go.WideShapes.add_plain] at this
  exact this

theorem matchTwice_any (va : Value) (l : List Tr) (w : World) (hl : Reads encTr w va l) :
    Calls Try.prog 5 #[va] w fun e w' => e = .returned (.bool true) ∧ Ext w w' := by
  have hone := fun W v (h : Reads encTr W v [oneTr]) => count_any v [oneTr] pTwice W h
  rw [err_one, count_one] at hone
  simp only [Option.isSome_none, Bool.false_eq_true, if_false, errV] at hone
  have hcnt := fun W (h : Ext w W) => count_any va l pTwice W (hl.ext h)
  have hsort := fun W (h : Ext w W) => sorted_any va l W (hl.ext h)
  have hme : matchErr l pTwice = setErr l := by unfold matchErr; rw [patErr_twice]; cases setErr l <;> rfl
  have hff : (l.filter fun t => fits t pTwice) = l.filter fun t => tmEq t.s t.o := by congr 1; funext t; exact fits_twice t
  rw [hme, hff] at hcnt
  have HO := Lib.hid hone
  have hh3 := alloc_heap_new w (.cells #[.string ⟨#[120]⟩, .int .i64 0, .string noText, .string noText, .string ⟨#[121]⟩, .int .i64 0, .string noText, .string noText, .string ⟨#[120]⟩, .int .i64 0, .string noText, .string noText] 44)
  have hx3 := (Ext.refl w).alloc (.cells #[.string ⟨#[120]⟩, .int .i64 0, .string noText, .string noText, .string ⟨#[121]⟩, .int .i64 0, .string noText, .string noText, .string ⟨#[120]⟩, .int .i64 0, .string noText, .string noText] 44)
  clear hone hff hme
  have HH := Lib.hid (And.intro hcnt hsort)
  clear hcnt hsort
  go_enter Try.func5, Try.ntmps5
  go_upto_region 2 with fail
  generalize hwb : World.alloc w _ = wb at hh3 hx3 ⊢
  clear hwb
  have hnm := fun s => name_at s wb
  go_upto_region 3 with (go_at_call 15; first | (with_reducible refine (hnm _ _ (Ext.refl wb)).mono ?_; rintro e wc ⟨rfl, hxc⟩) | (with_reducible refine (hnm _ _ hxc).mono ?_; rintro e wc ⟨rfl, hxc⟩))
  have h3 := heap_ext (hxc.alloc (.cells #[.int .i64 1, .string ⟨#[97]⟩, .string noText, .int .i64 1, .string ⟨#[98]⟩, .string noText, .int .i64 1, .string ⟨#[97]⟩, .string noText] 39)) hh3
  have h4 := alloc_heap_new wc (.cells #[.int .i64 1, .string ⟨#[97]⟩, .string noText, .int .i64 1, .string ⟨#[98]⟩, .string noText, .int .i64 1, .string ⟨#[97]⟩, .string noText] 39)
  have hxd := hx3.trans (hxc.alloc (.cells #[.int .i64 1, .string ⟨#[97]⟩, .string noText, .int .i64 1, .string ⟨#[98]⟩, .string noText, .int .i64 1, .string ⟨#[97]⟩, .string noText] 39))
  generalize hwd : World.alloc wc _ = wd at h3 h4 hxd ⊢
  clear hwd hnm hh3 hx3
  have hR : Reads encTr (wd.alloc (.cells #[.int .i64 1, .string ⟨#[97]⟩, .string noText, .int .i64 1, .string ⟨#[98]⟩, .string noText, .int .i64 1, .string ⟨#[97]⟩, .string noText] 39)) (.slice (some ⟨wd.heap.size, 0, none⟩) 1 1) [oneTr] := reads_one wd oneTr
  have hxe := hxd.alloc (.cells #[.int .i64 1, .string ⟨#[97]⟩, .string noText, .int .i64 1, .string ⟨#[98]⟩, .string noText, .int .i64 1, .string ⟨#[97]⟩, .string noText] 39)
  have h3' := heap_ext ((Ext.refl wd).alloc (.cells #[.int .i64 1, .string ⟨#[97]⟩, .string noText, .int .i64 1, .string ⟨#[98]⟩, .string noText, .int .i64 1, .string ⟨#[97]⟩, .string noText] 39)) h3
  have A4 := cells_at h4
  have A3 := cells_at h3'
  have HC := Lib.hid (HO.out _ _ hR)
  clear hR HO h4
  go_upto_region 4 with (go_at_call 16; refine HC.out.mono ?_; rintro e wf ⟨rfl, hxf⟩)
  have B3 := cells_at (heap_ext hxf h3')
  have hxg := hxe.trans hxf
  clear A4 A3 h3 h3' hxe hxd hxc HC hxf
  obtain ⟨hcnt, hsort⟩ := HH.out
  clear HH
  cases hE : setErr l with
  | some n =>
    rw [hE] at hcnt hsort
    dsimp only [errV, Option.isSome, if_true] at hcnt hsort
    have HH := Lib.hid (And.intro hcnt hsort)
    clear hcnt hsort hE hl
    go_upto_region 8 with (go_at_call 16; refine (HH.out.1 _ hxg).mono ?_; rintro e wh ⟨rfl, hxh⟩)
    go_wp2_with (go_at_call 14; refine (HH.out.2 _ (hxg.trans hxh)).mono ?_; rintro e wk ⟨rfl, hxk⟩)
    go_ret
    exact ⟨rfl, (hxg.trans hxh).trans hxk⟩
  | none =>
    have hlen := setErr_len hE
    rw [hE] at hcnt
    simp only [errV, Option.isSome_none, Bool.false_eq_true, if_false] at hcnt
    obtain ⟨F, hF⟩ : ∃ F : Nat → Nat, F = fun j => ((l.take j).filter fun t => tmEq t.s t.o).length := ⟨_, rfl⟩
    have hF0 : F 0 = 0 := by subst hF; rfl
    have hFn : (l.filter fun t => tmEq t.s t.o).length = F l.length := by subst hF; simp
    have hFs : ∀ j (h : j < l.length), F (j + 1) = F j + (if tmEq l[j].s l[j].o = true then 1 else 0) := fun j h => by
      subst hF; dsimp only
      rw [List.take_succ_eq_append_getElem h, List.filter_append, List.length_append]
      cases hq : tmEq l[j].s l[j].o <;> simp [List.filter_cons, hq]
    have hFle : ∀ j, F j ≤ j := fun j => by subst hF; exact Nat.le_trans (List.length_filter_le _ _) (by simp; omega)
    rw [hFn] at hcnt
    have HH := Lib.hid (And.intro hcnt (And.intro hFs hFle))
    clear hcnt hsort hE hF hFn hFs hFle
    go_wp2_with (go_at_call 16; refine (HH.out.1 _ hxg).mono ?_; rintro e wh ⟨rfl, hxh⟩)
    have hx := hxg.trans hxh
    clear hxg hxh B3
    obtain ⟨a, cap, rfl, hcap, hmax, hcells⟩ := hl
    unfold maxLen at hmax
    go_loopw [9, 10] (fun nv jv wr => ∃ j : Nat, jv = .int .i64 j ∧ nv = .int .i64 (F j : Nat) ∧ j ≤ l.length ∧ Ext w wr) (fun _ jv _ => l.length - (intOf jv).toNat)
    case atStart => exact ⟨0, rfl, by rw [hF0]; rfl, Nat.zero_le _, hx⟩
    case round =>
      obtain ⟨j, rfl, rfl, hj, hxr⟩ := hrel
      have hFj := HH.out.2.2 j
      by_cases hlt : j < l.length
      · obtain ⟨b, off, rfl, hc⟩ := hcells (fun h => by simp [h] at hlt)
        obtain ⟨c0, c1, c2, c3, c4, c5, c6, c7, c8⟩ := Tr.cells hc hlt
        have d0 := Later.cell (hxr.cell c0)
        have d1 := Later.cell (hxr.cell c1)
        have d2 := Later.cell (hxr.cell c2)
        have d6 := Later.cell (hxr.cell c6)
        have d7 := Later.cell (hxr.cell c7)
        have d8 := Later.cell (hxr.cell c8)
        have hs := HH.out.2.1 j hlt
        clear c0 c1 c2 c3 c4 c5 c6 c7 c8 hcells hc
        generalize l[j] = t at d0 d1 d2 d6 d7 d8 hs
        obtain ⟨⟨k1, s1, g1⟩, ⟨k2, s2, g2⟩, ⟨k3, s3, g3⟩⟩ := t
        dsimp only at *
        have HS := Lib.hid hs
        clear hs
        have hwr : IntKind.i64.wrap (j : Int) = j := IntWalk.i64_in _ (by omega)
        cases hq : tmEq ⟨k1, s1, g1⟩ ⟨k3, s3, g3⟩ with
        | true =>
          go_upto_region 13 with fail
          refine wp_region_ext [0, 1, 2, 3, 4, 5, 6, 7, 8, 9, 10] [] (by kernel_rfl) (by kernel_rfl) ?_
          simp only [List.filterMap_cons, List.filterMap_nil, List.getElem?_cons_succ, List.getElem?_cons_zero]
          repeat (first | ((with_reducible refine wpFr_yes ?hw ?_); (case hw => rfl); intro K hK; go_simp; (first | (refine hK _ ?_; clear hK K) | (apply Exists.intro; refine ⟨fun x => ?_, hK _ ?_⟩; (fail); clear hK K))) | ((with_reducible refine wpFr_not ?hw ?_); (case hw => rfl); intro K hK; go_simp; (refine hK _ ?_; clear hK K)))
          refine wpFr_nil ?_
          clear hwr
          refine wpTl_nil fun x hxx => ?_
          go_wp2
          go_roundw
          case rel => exact ⟨j + 1, vi (by omega), vi (by rw [HS.out, hq]; simp), by omega, hxr.trans hxx⟩
          case measure => simp [intOf]; omega
        | false =>
          go_upto_region 13 with fail
          refine wp_region_ext [0, 1, 2, 3, 4, 5, 6, 7, 8, 9, 10] [] (by kernel_rfl) (by kernel_rfl) ?_
          simp only [List.filterMap_cons, List.filterMap_nil, List.getElem?_cons_succ, List.getElem?_cons_zero]
          repeat (first | ((with_reducible refine wpFr_yes ?hw ?_); (case hw => rfl); intro K hK; go_simp; (first | (refine hK _ ?_; clear hK K) | (apply Exists.intro; refine ⟨fun x => ?_, hK _ ?_⟩; (fail); clear hK K))) | ((with_reducible refine wpFr_not ?hw ?_); (case hw => rfl); intro K hK; go_simp; (refine hK _ ?_; clear hK K)))
          refine wpFr_nil ?_
          clear hwr
          refine wpTl_nil fun x hxx => ?_
          go_wp2
          go_roundw
          case rel => exact ⟨j + 1, vi (by omega), vi (by rw [HS.out, hq]; simp), by omega, hxr.trans hxx⟩
          case measure => simp [intOf]; omega
      · have hjl : j = l.length := by omega
        subst hjl
        clear hcells
        go_wp2
        go_ret
        exact ⟨by simp, hxr⟩
end Go.Proofs.Ytommohepbpdmdaa
