/- The dict: room for one, Add, Term. -/
import Derived.Test.YtommohepbpdmdaaDoorDictWalks
namespace Go.Proofs.YtommohepbpdmdaaDoor
open Go.RowKit Go.Maps Go.WideMaps
set_option maxHeartbeats 3200000
set_option maxRecDepth 100000

theorem sliceOf_own {w : World} {base : Nat} {e : TypeId} {size : Nat} {v : Value} {n : Nat} {xs : List Value} (h : w.ownsRow base e size v n xs) : ∃ a cap, v = .slice a n cap := by
  obtain ⟨_, ⟨rfl, h0⟩ | ⟨g, cap, cur, rfl, _⟩⟩ := h
  · exact ⟨none, 0, by rw [h0]⟩
  · exact ⟨_, cap, rfl⟩

/-- room for one -/
theorem dictRoom_one {w : World} {db mb B : Nat} {v : Value} {l : List Tm} (h : DictAt w db mb B v l) (t : Tm) (hk : TmKey t) (hn : l.length ≤ 1000) (va : Value) (hv : Reads encTm w va [t]) :
    Calls Tryd.prog 36 #[.pointer (some ⟨db, 0, none⟩), va] w fun e w' => e = .returned (.bool (decide (l.length + (if t ∈ l then 0 else 1) ≤ 300))) ∧ Ext w w' := by
  obtain ⟨a, cap, rfl, hcap, hmax, hcells⟩ := hv
  obtain ⟨b, off, rfl, hc⟩ := hcells (by simp)
  have c0 : w.cell? ⟨b, off, none⟩ = some (.int .i64 t.kind) := hc 0 _ rfl
  have c1 : w.cell? ⟨b, off + 1, none⟩ = some (.string t.s) := hc 1 _ rfl
  have c2 : w.cell? ⟨b, off + 2, none⟩ = some (.string t.lang) := hc 2 _ rfl
  obtain ⟨kl, hkl⟩ := keyTm hk
  obtain ⟨av, cv, rfl⟩ := sliceOf_own h.own
  have hmm := @run_makeMap Tryd.prog
  unfold maxLen at hmax
  have hcd := h.cells
  have hxm := (Ext.refl w).alloc (.map #[] 0)
  have d0 := hxm.cell c0
  have d1 := hxm.cell c1
  have d2 := hxm.cell c2
  by_cases hin : t ∈ l
  · rw [if_pos hin]
    obtain ⟨i, hi, hti⟩ := List.getElem_of_mem hin
    have hin' : (vTm t, Value.int .i64 ((i : Int) + 1)) ∈ idsTm 0 l := by have := idsTm_in 0 i hi; rw [Nat.zero_add] at this; rw [← hti]; exact this
    have hlk := fun W (hW : Ext w W) c => (h.ext hW).ids.look_hit (t := 75) Tryd.underlying75 keysTm hkl hin' c
    have HL := Lib.hid hlk
    clear hlk h hin hin' hti hk hkl hcells hc hcap hi c0 c1 c2
    obtain ⟨k, s, g⟩ := t
    dsimp only at d0 d1 d2
    go_enter Tryd.func36, Tryd.ntmps36
    go_wp2
    refine wp_loop_rounds 2 ?_
    rw [rounds_succ]
    go_upto_region 5 with fail
    have hx := hxm.alloc (.cells #[.int .i64 k, .string s, .string g] 25)
    have hb := alloc_heap_new (w.alloc (.map #[] 0)) (.cells #[.int .i64 k, .string s, .string g] 25)
    have hm := (MapAt.made Tryd.prog 25 w).ext ((Ext.refl (w.alloc (.map #[] 0))).alloc (.cells #[.int .i64 k, .string s, .string g] 25))
    rw [World.size_alloc] at hb
    generalize World.alloc (World.alloc w _) _ = wb at hx hb hm ⊢
    have A := Later.cells (heap_ext hx hcd)
    have X := Later.cells hb
    have hl1 := fun (x : Later wb) => HL.out x.wd (hx.trans x.ext) false
    clear d0 d1 d2 hxm
    refine wp_region_ext [0, 1, 2, 3, 4, 5, 6] [] (by kernel_rfl) (by kernel_rfl) ?_
    simp only [List.filterMap_cons, List.filterMap_nil, List.getElem?_cons_succ, List.getElem?_cons_zero]
    repeat (first | ((with_reducible refine wpFr_yes ?hw ?_); (case hw => rfl); intro K hK; go_simp; (first | (refine hK _ ?_; clear hK K) | (apply Exists.intro; refine ⟨fun x => ?_, hK _ ?_⟩; (fail); clear hK K))) | ((with_reducible refine wpFr_not ?hw ?_); (case hw => rfl); intro K hK; go_simp; (refine hK _ ?_; clear hK K)))
    refine wpFr_nil ?_
    refine wpTl_nil fun x hxx => ?_
    have h0 : ((i : Int) + 1 == 0) = false := beq_eq_false_iff_ne.2 (by omega)
    clear hl1
    go_wp2
    rw [rounds_succ]
    go_wp2
    clear h0 A X
    have A := Later.cells (heap_ext (hx.trans hxx) hcd)
    have hml := fun (y : Later x) ty => ((hm.ext hxx).ext y.ext).len (t := 82) Tryd.underlying82 ty
    refine wp_region_ext [0, 1, 2, 3, 4, 5, 6, 7, 8, 9] [] (by kernel_rfl) (by kernel_rfl) ?_
    simp only [List.filterMap_cons, List.filterMap_nil, List.getElem?_cons_succ, List.getElem?_cons_zero]
    repeat (first | ((with_reducible refine wpFr_yes ?hw ?_); (case hw => rfl); intro K hK; go_simp; (first | (refine hK _ ?_; clear hK K) | (apply Exists.intro; refine ⟨fun x => ?_, hK _ ?_⟩; (fail); clear hK K))) | ((with_reducible refine wpFr_not ?hw ?_); (case hw => rfl); intro K hK; go_simp; (refine hK _ ?_; clear hK K)))
    refine wpFr_nil ?_
    refine wpTl_nil fun y hyy => ?_
    clear hml A
    go_wp2
    go_ret
    have hw : IntKind.i64.wrap (l.length : Int) = l.length := IntWalk.i64_in _ (by omega)
    exact ⟨by simp [hw]; omega, (hx.trans hxx).trans hyy⟩
  · rw [if_neg hin]
    have hlk := fun W (hW : Ext w W) c => (h.ext hW).ids.look_miss (t := 75) Tryd.underlying75 keysTm hkl (idsTm_out 0 hin) (zeroInt _) c
    have HL := Lib.hid (And.intro hlk hkl)
    clear hlk h hin hk hkl hcells hc hcap c0 c1 c2
    obtain ⟨k, s, g⟩ := t
    dsimp only at d0 d1 d2
    go_enter Tryd.func36, Tryd.ntmps36
    go_wp2
    refine wp_loop_rounds 2 ?_
    rw [rounds_succ]
    go_upto_region 5 with fail
    have hx := hxm.alloc (.cells #[.int .i64 k, .string s, .string g] 25)
    have hb := alloc_heap_new (w.alloc (.map #[] 0)) (.cells #[.int .i64 k, .string s, .string g] 25)
    have hm := (MapAt.made Tryd.prog 25 w).ext ((Ext.refl (w.alloc (.map #[] 0))).alloc (.cells #[.int .i64 k, .string s, .string g] 25))
    rw [World.size_alloc] at hb
    generalize World.alloc (World.alloc w _) _ = wb at hx hb hm ⊢
    have A := Later.cells (heap_ext hx hcd)
    have X := Later.cells hb
    have hl1 := fun (x : Later wb) => HL.out.1 x.wd (hx.trans x.ext) false
    clear d0 d1 d2 hxm
    refine wp_region_ext [0, 1, 2, 3, 4, 5, 6] [] (by kernel_rfl) (by kernel_rfl) ?_
    simp only [List.filterMap_cons, List.filterMap_nil, List.getElem?_cons_succ, List.getElem?_cons_zero]
    repeat (first | ((with_reducible refine wpFr_yes ?hw ?_); (case hw => rfl); intro K hK; go_simp; (first | (refine hK _ ?_; clear hK K) | (apply Exists.intro; refine ⟨fun x => ?_, hK _ ?_⟩; (fail); clear hK K))) | ((with_reducible refine wpFr_not ?hw ?_); (case hw => rfl); intro K hK; go_simp; (refine hK _ ?_; clear hK K)))
    refine wpFr_nil ?_
    refine wpTl_nil fun x hxx => ?_
    clear hl1 A X
    have X := cells_at (heap_ext hxx hb)
    obtain ⟨Wm, hrun, hmap, hturn⟩ := (hm.ext hxx).put_miss (t := 82) Tryd.underlying82 keysTm HL.out.2 (by simp) (value := .bool true)
    have hxw : Ext w Wm := hturn.below (Nat.le_refl _) (hx.trans hxx)
    have hcm := heap_ext hxw hcd
    clear hturn
    go_wp2
    rw [rounds_succ]
    go_wp2
    clear hrun X
    have A := Later.cells hcm
    have hml := fun (y : Later Wm) ty => (hmap.ext y.ext).len (t := 82) Tryd.underlying82 ty
    refine wp_region_ext [0, 1, 2, 3, 4, 5, 6, 7, 8, 9] [] (by kernel_rfl) (by kernel_rfl) ?_
    simp only [List.filterMap_cons, List.filterMap_nil, List.getElem?_cons_succ, List.getElem?_cons_zero]
    repeat (first | ((with_reducible refine wpFr_yes ?hw ?_); (case hw => rfl); intro K hK; go_simp; (first | (refine hK _ ?_; clear hK K) | (apply Exists.intro; refine ⟨fun x => ?_, hK _ ?_⟩; (fail); clear hK K))) | ((with_reducible refine wpFr_not ?hw ?_); (case hw => rfl); intro K hK; go_simp; (refine hK _ ?_; clear hK K)))
    refine wpFr_nil ?_
    refine wpTl_nil fun y hyy => ?_
    clear hml A
    go_wp2
    go_ret
    have hw : IntKind.i64.wrap ((l.length : Int) + 1) = (l.length : Int) + 1 := IntWalk.i64_in _ (by omega)
    exact ⟨by simp [hw]; omega, hxw.trans hyy⟩

/-- Add: one that is right -/
theorem dictAdd_any {w : World} {db mb B : Nat} {v : Value} {l : List Tm} (h : DictAt w db mb B v l) (hBd : B ≤ db) (hBm : B ≤ mb) (hBw : B ≤ w.heap.size) (t : Tm) (hk : TmKey t) (hok : tmErr t = none) (hn : l.length ≤ 300) (P : Ending → World → Prop)
    (hfull : t ∉ l → l.length = 300 → ∀ w', Ext w w' → P (.returned (.tuple #[.int .i64 0, eV 4])) w')
    (hnew : t ∉ l → l.length < 300 → ∀ w' v', DictAt w' db mb B v' (l ++ [t]) → Below B w w' → P (.returned (.tuple #[.int .i64 ((l.length : Int) + 1), .nilIface])) w')
    (hold : ∀ (i : Nat) (hi : i < l.length), l[i] = t → ∀ w', Ext w w' → P (.returned (.tuple #[.int .i64 ((i + 1 : Nat) : Int), .nilIface])) w') :
    Calls Tryd.prog 17 #[.pointer (some ⟨db, 0, none⟩), vTm t] w P := by
  have hchk : ∀ W, Calls Tryd.prog 15 #[vTm t] W fun e w' => e = .returned .nilIface ∧ Ext W w' := fun W => by
    have := termCheck_any t W; rw [hok] at this; exact this
  have hroom := fun W (hW : Ext w W) va (hv : Reads encTm W va [t]) => dictRoom_one (h.ext hW) t hk (by omega) va hv
  have hadd := fun W (hW : Ext w W) => dictAdd_fresh (h.ext hW) hBd hBm (Nat.le_trans hBw hW.size) t
  have hknown := fun W (hW : Ext w W) i (hi : i < l.length) (ht : t = l[i]) => dictAdd_known (h.ext hW) i hi t ht hk
  have HH := Lib.hid (And.intro hchk (And.intro hroom (And.intro hadd hknown)))
  clear hchk hroom hadd hknown hok
  have hread : ∀ W : World, Reads encTm (W.alloc (.cells #[.int .i64 t.kind, .string t.s, .string t.lang] 25)) (.slice (some ⟨W.heap.size, 0, none⟩) 1 1) [t] := fun W => by
    refine ⟨_, 1, rfl, Nat.le_refl _, by decide, fun _ => ⟨_, 0, rfl, fun i u hi => ?_⟩⟩
    have := cells_new W #[.int .i64 t.kind, .string t.s, .string t.lang] 25 W.heap.size rfl i u (by simpa [encTm] using hi)
    rw [Go.WideShapes.add_plain] at this
    exact this
  have hb := alloc_heap_new w (.cells #[.int .i64 t.kind, .string t.s, .string t.lang] 25)
  have hx := (Ext.refl w).alloc (.cells #[.int .i64 t.kind, .string t.s, .string t.lang] 25)
  have HR := Lib.hid hread
  clear hread h
  by_cases hin : t ∈ l
  · obtain ⟨i, hi, hti⟩ := List.getElem_of_mem hin
    have hr := HH.out.2.1
    rw [if_pos hin] at hr
    rw [show decide (l.length + 0 ≤ 300) = true by simp; omega] at hr
    have HC := Lib.hid (And.intro HH.out.1 (And.intro hr (And.intro (fun W hW => HH.out.2.2.2 W hW i hi hti.symm) (hold i hi hti))))
    clear hr HH hfull hnew hold hti hin
    go_enter Tryd.func17, Tryd.ntmps17
    go_upto_region 1 with fail
    generalize hwb : World.alloc w _ = wb at hb hx ⊢
    clear hwb
    have X := cells_at hb
    go_upto_region 4 with (go_at_call 15; refine (HC.out.1 _).mono ?_; rintro e w1 ⟨rfl, hx1⟩)
    replace hx := hx.trans hx1
    replace hb := heap_ext hx1 hb
    clear X hx1
    have X := cells_at hb
    have hrd := HR.out w1
    have hxa := hx.alloc (.cells #[.int .i64 t.kind, .string t.s, .string t.lang] 25)
    go_upto_region 6 with (go_at_call 36; with_reducible refine (HC.out.2.1 _ hxa _ hrd).mono ?_; rintro e w2 ⟨rfl, hx2⟩)
    have hxr := hxa.trans hx2
    replace hb := heap_ext (((Ext.refl w1).alloc _).trans hx2) hb
    clear X hrd hxa
    have X := cells_at hb
    go_wp2_with (go_at_call 37; with_reducible refine (HC.out.2.2.1 _ hxr).mono ?_; rintro e w3 ⟨rfl, hxa⟩)
    exact HC.out.2.2.2 _ (hxr.trans hxa)
  · have hr := HH.out.2.1
    rw [if_neg hin] at hr
    by_cases hl : l.length < 300
    · rw [show decide (l.length + 1 ≤ 300) = true by simp; omega] at hr
      have HC := Lib.hid (And.intro HH.out.1 (And.intro hr (And.intro (fun W hW => HH.out.2.2.1 W hW hin hk (by omega)) (hnew hin hl))))
      clear hr HH hfull hnew hold hin
      go_enter Tryd.func17, Tryd.ntmps17
      go_upto_region 1 with fail
      generalize hwb : World.alloc w _ = wb at hb hx ⊢
      clear hwb
      have X := cells_at hb
      go_upto_region 4 with (go_at_call 15; refine (HC.out.1 _).mono ?_; rintro e w1 ⟨rfl, hx1⟩)
      replace hx := hx.trans hx1
      replace hb := heap_ext hx1 hb
      clear X hx1
      have X := cells_at hb
      have hrd := HR.out w1
      have hxa := hx.alloc (.cells #[.int .i64 t.kind, .string t.s, .string t.lang] 25)
      go_upto_region 6 with (go_at_call 36; with_reducible refine (HC.out.2.1 _ hxa _ hrd).mono ?_; rintro e w2 ⟨rfl, hx2⟩)
      have hxr := hxa.trans hx2
      replace hb := heap_ext (((Ext.refl w1).alloc _).trans hx2) hb
      clear X hrd hxa
      have X := cells_at hb
      go_wp2_with (go_at_call 37; with_reducible refine (HC.out.2.2.1 _ hxr).mono ?_; rintro e w3 ⟨rfl, vn, hD, hxa⟩)
      exact HC.out.2.2.2 _ _ hD ((Below.mono hxr hBw).trans hxa)
    · rw [show decide (l.length + 1 ≤ 300) = false by simp; omega] at hr
      have HC := Lib.hid (And.intro HH.out.1 (And.intro hr (hfull hin (by omega))))
      clear hr HH hfull hnew hold hin
      go_enter Tryd.func17, Tryd.ntmps17
      go_upto_region 1 with fail
      generalize hwb : World.alloc w _ = wb at hb hx ⊢
      clear hwb
      have X := cells_at hb
      go_upto_region 4 with (go_at_call 15; refine (HC.out.1 _).mono ?_; rintro e w1 ⟨rfl, hx1⟩)
      replace hx := hx.trans hx1
      replace hb := heap_ext hx1 hb
      clear X hx1
      have X := cells_at hb
      have hrd := HR.out w1
      have hxa := hx.alloc (.cells #[.int .i64 t.kind, .string t.s, .string t.lang] 25)
      go_wp2_with (go_at_call 36; with_reducible refine (HC.out.2.1 _ hxa _ hrd).mono ?_; rintro e w2 ⟨rfl, hx2⟩)
      have hxr := hxa.trans hx2
      exact HC.out.2.2 _ hxr

/-- Term of a number -/
theorem dictTerm_any {w : World} {db mb B : Nat} {v : Value} {l : List Tm} (h : DictAt w db mb B v l) (i : Nat) (hi : i < l.length) (hn : l.length ≤ 1000) :
    Calls Tryd.prog 18 #[.pointer (some ⟨db, 0, none⟩), .int .i64 ((i : Int) + 1)] w fun e w' => e = .returned (.tuple #[vTm l[i], .nilIface]) ∧ Ext w w' := by
  have hx := (Ext.refl w).alloc (.cells #[.int .i64 0, .string noText, .string noText] 25)
  have hD := h.ext hx
  have A := cells_at hD.cells
  obtain ⟨gb, cap, rfl⟩ : ∃ gb cap, v = .slice (some ⟨gb, 0, none⟩) l.length cap := by
    obtain ⟨_, ⟨_, h0⟩ | ⟨gb, cap, cur, rfl, _⟩⟩ := h.own
    · omega
    · exact ⟨gb, cap, rfl⟩
  have hcell : ∀ c, c < 3 → (w.alloc (.cells #[.int .i64 0, .string noText, .string noText] 25)).cell? ⟨gb, i * 3 + c, none⟩ = (encTm l[i])[c]? := fun c hc => by
    rw [hD.own.cellAt (i * 3 + c) (by omega)]
    exact flat_get encTm_len l i c hi hc
  have c0 := hcell 0 (by decide)
  have c1 := hcell 1 (by decide)
  have c2 := hcell 2 (by decide)
  generalize l[i] = t at c0 c1 c2 ⊢
  obtain ⟨k, s, g⟩ := t
  simp [encTm] at c0 c1 c2
  clear h hD hcell
  go_enter Tryd.func18, Tryd.ntmps18
  go_wp2
  (try simp only [Exit.inBlock, Exit.then])
  refine bodyPost_ret (v := .tuple #[vTm ⟨k, s, g⟩, .nilIface]) (results_cell_tmp rfl rfl ?_ rfl) rfl ?_
  · go_simp
  · exact ⟨rfl, (Ext.refl w).alloc _⟩
end Go.Proofs.YtommohepbpdmdaaDoor
