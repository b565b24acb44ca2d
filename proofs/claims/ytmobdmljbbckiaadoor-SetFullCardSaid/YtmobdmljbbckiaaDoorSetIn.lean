/- set.In: a search by halves in a list that rises. -/
import Derived.Test.YtmobdmljbbckiaaDoorCmpPure
import Derived.Test.YtmobdmljbbckiaaDoorTermWalks
namespace Go.Proofs.YtmobdmljbbckiaaDoor
open Go.RowKit
set_option maxHeartbeats 3200000
set_option maxRecDepth 100000

theorem search_in {l : List Tr} (hs : Rises cmpTr l) {t : Tr} {i : Nat} (hi : i < l.length) (hlo : ∀ k (h : k < i), cmpTr (l[k]'(by omega)) t < 0) (hhi : 0 ≤ cmpTr l[i] t) : (cmpTr l[i] t == 0) = decide (t ∈ l) := by
  rw [Bool.eq_iff_iff]
  simp only [beq_iff_eq, decide_eq_true_eq]
  constructor
  · intro h; rw [← (law_cmpTr.eq _ _).1 h]; exact List.getElem_mem hi
  · intro h
    obtain ⟨k, hk, rfl⟩ := List.getElem_of_mem h
    rcases Nat.lt_trichotomy k i with h1 | h1 | h1
    · have := hlo k h1; rw [law_cmpTr.self] at this; omega
    · subst h1; exact law_cmpTr.self _
    · have := List.pairwise_iff_getElem.1 hs i k hi hk h1; omega
theorem search_out {l : List Tr} {t : Tr} (hlo : ∀ k (h : k < l.length), cmpTr l[k] t < 0) : decide (t ∈ l) = false := by
  rw [decide_eq_false_iff_not]
  intro h
  obtain ⟨k, hk, rfl⟩ := List.getElem_of_mem h
  have := hlo k hk
  rw [law_cmpTr.self] at this; omega

theorem compare_enters : ∀ args w, (callFunc 32 args).run Tryd.prog w = .ok (.enter 32 args) w := Go.Proofs.enters_of Tryd.func32 (by kernel_rfl) rfl

theorem bsearch_tr (v : Value) (l : List Tr) (t : Tr) (w : World) (hl : Reads encTr w v l) (hs : Rises cmpTr l) (hn : l.length ≤ 100000) :
    Calls Tryd.prog 84 #[v, vTr t, .func (.func 32) #[] #[]] w fun e w' => ∃ i : Nat, e = .returned (.tuple #[.int .i64 i, .bool (decide (t ∈ l))]) ∧ Ext w w' := by
  obtain ⟨a, cap, rfl, hcap, hmax, hcells⟩ := hl
  unfold maxLen at hmax
  have hcmp := fun x W => tripleCompare_any x t W
  have eg := compare_enters
  have HS := Lib.hid hs
  have HC := Lib.hid hcmp
  clear hs hcmp
  have hx := (Ext.refl w).alloc (.cells #[.int .i64 t.s.kind, .string t.s.s, .string t.s.lang, .int .i64 t.p.kind, .string t.p.s, .string t.p.lang, .int .i64 t.o.kind, .string t.o.s, .string t.o.lang] 28)
  have hb := alloc_heap_new w (.cells #[.int .i64 t.s.kind, .string t.s.s, .string t.s.lang, .int .i64 t.p.kind, .string t.p.s, .string t.p.lang, .int .i64 t.o.kind, .string t.o.s, .string t.o.lang] 28)
  go_enter Tryd.func84, Tryd.ntmps84
  go_upto_region 1 with fail
  generalize hwb : World.alloc w _ = wb at hx hb ⊢
  clear hwb
  go_wp2
  go_loopw [9, 10] (fun iv jv wr => ∃ i j : Nat, iv = .int .i64 i ∧ jv = .int .i64 j ∧ i ≤ j ∧ j ≤ l.length ∧ Hid ((∀ k (_ : k < i) (h : k < l.length), cmpTr l[k] t < 0) ∧ ∀ k (_ : j ≤ k) (h : k < l.length), 0 ≤ cmpTr l[k] t) ∧ Ext wb wr) (fun iv jv _ => (intOf jv).toNat - (intOf iv).toNat)
  case atStart => exact ⟨0, l.length, rfl, rfl, Nat.zero_le _, Nat.le_refl _, Lib.hid ⟨fun k hk => absurd hk (Nat.not_lt_zero _), fun k h1 h2 => absurd h2 (by omega)⟩, Ext.refl _⟩
  case round =>
    obtain ⟨i, j, rfl, rfl, hij, hjn, HI, hxr⟩ := hrel
    by_cases hlt : i < j
    · obtain ⟨b, off, rfl, hc⟩ := hcells (fun h => by simp [h] at hjn; omega)
      obtain ⟨h, hh⟩ : ∃ h, h = (i + j) / 2 := ⟨_, rfl⟩
      have e1 : ((i : Int) + j) / 2 = (h : Int) := by omega
      have hi : i ≤ h := by omega
      have hj : h < j := by omega
      have hl : h < l.length := by omega
      obtain ⟨c0, c1, c2, c3, c4, c5, c6, c7, c8⟩ := Tr.cells hc hl
      have hxw := hx.trans hxr
      have d0 := Later.cell (hxw.cell c0)
      have d1 := Later.cell (hxw.cell c1)
      have d2 := Later.cell (hxw.cell c2)
      have d3 := Later.cell (hxw.cell c3)
      have d4 := Later.cell (hxw.cell c4)
      have d5 := Later.cell (hxw.cell c5)
      have d6 := Later.cell (hxw.cell c6)
      have d7 := Later.cell (hxw.cell c7)
      have d8 := Later.cell (hxw.cell c8)
      have X := Later.cells (heap_ext hxr hb)
      have hlo : cmpTr l[h] t < 0 → ∀ k (_ : k < h + 1) (hk : k < l.length), cmpTr l[k] t < 0 := fun h0 k h1 h2 => by
        by_cases e : k = h
        · subst e; exact h0
        · exact law_cmpTr.trans _ _ _ (List.pairwise_iff_getElem.1 HS.out k h h2 hl (by omega)) h0
      have hhi : 0 ≤ cmpTr l[h] t → ∀ k (_ : h ≤ k) (hk : k < l.length), 0 ≤ cmpTr l[k] t := fun h0 k h1 h2 => by
        by_cases e : k = h
        · subst e; exact h0
        · have := List.pairwise_iff_getElem.1 HS.out h k hl h2 (by omega)
          have hf := law_cmpTr.flip l[k] t
          have hf2 := law_cmpTr.flip l[h] t
          by_cases h3 : cmpTr l[k] t < 0
          · have := law_cmpTr.trans _ _ _ this h3; omega
          · omega
      have HB := Lib.hid (And.intro hlo hhi)
      have hcl := fun W => HC.out l[h] W
      clear hlo hhi c0 c1 c2 c3 c4 c5 c6 c7 c8 hc hcells hh
      go_upto_region 5 with fail
      clear e1
      generalize l[h] = y at d0 d1 d2 d3 d4 d5 d6 d7 d8 hcl HB
      obtain ⟨⟨k1, s1, g1⟩, ⟨k2, s2, g2⟩, ⟨k3, s3, g3⟩⟩ := y
      dsimp only at d0 d1 d2 d3 d4 d5 d6 d7 d8
      generalize cmpTr ⟨⟨k1, s1, g1⟩, ⟨k2, s2, g2⟩, ⟨k3, s3, g3⟩⟩ t = c at hcl HB
      have HCL := Lib.hid hcl
      clear hcl
      by_cases hc0 : c < 0
      · skip
        refine wp_region_ext [0, 1, 2, 3, 4, 5, 6, 7] [] (by kernel_rfl) (by kernel_rfl) ?_
        simp only [List.filterMap_cons, List.filterMap_nil, List.getElem?_cons_succ, List.getElem?_cons_zero]
        repeat (first | ((with_reducible refine wpFr_yes ?hw ?_); (case hw => rfl); intro K hK; go_simp; (first | (refine hK _ ?_; clear hK K) | (apply Exists.intro; refine ⟨fun x => ?_, hK _ ?_⟩; ((go_at_fn 32; exact HCL.out _)); clear hK K))) | ((with_reducible refine wpFr_not ?hw ?_); (case hw => rfl); intro K hK; go_simp; (refine hK _ ?_; clear hK K)))
        refine wpFr_nil ?_
        refine wpTl_nil fun x hxx => ?_
        clear d0 d1 d2 d3 d4 d5 d6 d7 d8 X
        go_wp2
        go_roundw
        case rel => exact ⟨h + 1, j, vi (by omega), rfl, by omega, hjn, Lib.hid ⟨HB.out.1 hc0, HI.out.2⟩, hxr.trans hxx⟩
        case measure => simp [intOf]; omega
      · skip
        refine wp_region_ext [0, 1, 2, 3, 4, 5, 6, 7] [] (by kernel_rfl) (by kernel_rfl) ?_
        simp only [List.filterMap_cons, List.filterMap_nil, List.getElem?_cons_succ, List.getElem?_cons_zero]
        repeat (first | ((with_reducible refine wpFr_yes ?hw ?_); (case hw => rfl); intro K hK; go_simp; (first | (refine hK _ ?_; clear hK K) | (apply Exists.intro; refine ⟨fun x => ?_, hK _ ?_⟩; ((go_at_fn 32; exact HCL.out _)); clear hK K))) | ((with_reducible refine wpFr_not ?hw ?_); (case hw => rfl); intro K hK; go_simp; (refine hK _ ?_; clear hK K)))
        refine wpFr_nil ?_
        refine wpTl_nil fun x hxx => ?_
        clear d0 d1 d2 d3 d4 d5 d6 d7 d8 X
        go_wp2
        go_roundw
        case rel => exact ⟨i, h, rfl, rfl, hi, by omega, Lib.hid ⟨HI.out.1, HB.out.2 (by omega)⟩, hxr.trans hxx⟩
        case measure => simp [intOf]; omega
    · have hije : i = j := by omega
      subst hije
      by_cases hil : i < l.length
      · obtain ⟨b, off, rfl, hc⟩ := hcells (fun h => by simp [h] at hil)
        obtain ⟨c0, c1, c2, c3, c4, c5, c6, c7, c8⟩ := Tr.cells hc hil
        have hxw := hx.trans hxr
        have d0 := Later.cell (hxw.cell c0)
        have d1 := Later.cell (hxw.cell c1)
        have d2 := Later.cell (hxw.cell c2)
        have d3 := Later.cell (hxw.cell c3)
        have d4 := Later.cell (hxw.cell c4)
        have d5 := Later.cell (hxw.cell c5)
        have d6 := Later.cell (hxw.cell c6)
        have d7 := Later.cell (hxw.cell c7)
        have d8 := Later.cell (hxw.cell c8)
        have X := Later.cells (heap_ext hxr hb)
        have hres := search_in HS.out hil (fun k hk => HI.out.1 k hk (by omega)) (HI.out.2 i (Nat.le_refl _) hil)
        have hcl := fun W => HC.out l[i] W
        clear c0 c1 c2 c3 c4 c5 c6 c7 c8 hc hcells
        generalize l[i] = y at d0 d1 d2 d3 d4 d5 d6 d7 d8 hcl hres
        obtain ⟨⟨k1, s1, g1⟩, ⟨k2, s2, g2⟩, ⟨k3, s3, g3⟩⟩ := y
        dsimp only at d0 d1 d2 d3 d4 d5 d6 d7 d8
        generalize cmpTr ⟨⟨k1, s1, g1⟩, ⟨k2, s2, g2⟩, ⟨k3, s3, g3⟩⟩ t = c at hcl hres
        have HCL := Lib.hid (And.intro hcl hres)
        clear hcl hres
        go_upto_region 8 with fail
        refine wp_region_ext [0, 1, 2, 3, 4, 5, 6, 7, 8, 9, 10, 11, 12, 13, 14, 15] [] (by kernel_rfl) (by kernel_rfl) ?_
        simp only [List.filterMap_cons, List.filterMap_nil, List.getElem?_cons_succ, List.getElem?_cons_zero]
        repeat (first | ((with_reducible refine wpFr_yes ?hw ?_); (case hw => rfl); intro K hK; go_simp; (first | (refine hK _ ?_; clear hK K) | (apply Exists.intro; refine ⟨fun x => ?_, hK _ ?_⟩; ((go_at_fn 32; exact HCL.out.1 _)); clear hK K))) | ((with_reducible refine wpFr_not ?hw ?_); (case hw => rfl); intro K hK; go_simp; (refine hK _ ?_; clear hK K)))
        refine wpFr_nil ?_
        refine wpTl_nil fun x hxx => ?_
        clear d0 d1 d2 d3 d4 d5 d6 d7 d8 X
        go_wp2
        go_ret2
        exact ⟨i, by rw [← HCL.out.2]; simp, hxw.trans hxx⟩
      · have hres := search_out (l := l) (t := t) (fun k hk => HI.out.1 k (by omega) hk)
        have HR := Lib.hid hres
        have X := Later.cells (heap_ext hxr hb)
        clear hres hcells
        go_upto_region 8 with fail
        refine wp_region_ext [0, 1, 2, 3, 4, 5, 6, 7, 8, 9, 10, 11, 12, 13, 14, 15] [] (by kernel_rfl) (by kernel_rfl) ?_
        simp only [List.filterMap_cons, List.filterMap_nil, List.getElem?_cons_succ, List.getElem?_cons_zero]
        repeat (first | ((with_reducible refine wpFr_yes ?hw ?_); (case hw => rfl); intro K hK; go_simp; (first | (refine hK _ ?_; clear hK K) | (apply Exists.intro; refine ⟨fun x => ?_, hK _ ?_⟩; (fail); clear hK K))) | ((with_reducible refine wpFr_not ?hw ?_); (case hw => rfl); intro K hK; go_simp; (refine hK _ ?_; clear hK K)))
        refine wpFr_nil ?_
        refine wpTl_nil fun x hxx => ?_
        clear X
        go_wp2
        go_ret2
        exact ⟨i, by rw [HR.out]; rfl, (hx.trans hxr).trans hxx⟩

theorem setIn_any (v : Value) (l : List Tr) (t : Tr) (w : World) (hl : Reads encTr w v l) (hs : Rises cmpTr l) (hn : l.length ≤ 100000) :
    Calls Tryd.prog 58 #[v, vTr t] w fun e w' => e = .returned (.bool (decide (t ∈ l))) ∧ Ext w w' := by
  have hB := fun W (h : Ext w W) => bsearch_tr v l t W (hl.ext h) hs hn
  obtain ⟨r, hr⟩ : ∃ r, r = decide (t ∈ l) := ⟨_, rfl⟩
  rw [← hr] at hB ⊢
  have HB := Lib.hid hB
  clear hB hr hl
  go_enter Tryd.func58, Tryd.ntmps58
  go_wp2_with (go_at_call 84; refine (HB.out _ ((Ext.refl w).alloc _)).mono ?_; rintro e w1 ⟨i, rfl, hx1⟩)
  go_ret
  exact ⟨rfl, ((Ext.refl w).alloc _).trans hx1⟩
end Go.Proofs.YtmobdmljbbckiaaDoor
