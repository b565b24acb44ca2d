/- The dict: what its functions do to the world. -/
import Derived.Test.YtommohepbpdmdaaDoorKeyTm
import Derived.Test.YtommohepbpdmdaaDoorAppend
import Derived.Test.YtommohepbpdmdaaDoorTermCheck
namespace Go.Proofs.YtommohepbpdmdaaDoor
open Go.RowKit Go.Maps Go.WideMaps
set_option maxHeartbeats 3200000
set_option maxRecDepth 100000

/-- the numbers of terms, from k + 1 on -/
def idsTm : Nat → List Tm → List (Value × Value)
  | _, [] => []
  | k, t :: l => (vTm t, .int .i64 ((k + 1 : Nat) : Int)) :: idsTm (k + 1) l
theorem idsTm_snoc : ∀ (l : List Tm) (k : Nat) (t : Tm), idsTm k (l ++ [t]) = idsTm k l ++ [(vTm t, .int .i64 ((k + l.length + 1 : Nat) : Int))]
  | [], k, t => by simp [idsTm]
  | u :: l, k, t => by
    rw [List.cons_append, idsTm, idsTm_snoc l (k + 1) t, idsTm]
    simp only [List.cons_append, List.length_cons]
    rw [show k + 1 + l.length + 1 = k + (l.length + 1) + 1 by omega]
theorem vTm_inj {a b : Tm} (h : vTm a = vTm b) : a = b := by
  cases a; cases b
  simp [vTm] at h
  simp [h]
theorem idsTm_out : ∀ {l : List Tm} (k : Nat) {t : Tm}, t ∉ l → ∀ x ∈ idsTm k l, x.1 ≠ vTm t
  | [], _, _, _, _, hx => by cases hx
  | u :: l, k, t, h, x, hx => by
    rcases List.mem_cons.1 hx with rfl | hx
    · exact fun e => h (by rw [← vTm_inj e]; exact List.mem_cons_self ..)
    · exact idsTm_out (k + 1) (fun hh => h (List.mem_cons_of_mem _ hh)) x hx
theorem idsTm_in : ∀ {l : List Tm} (k i : Nat) (hi : i < l.length), (vTm l[i], Value.int .i64 ((k + i + 1 : Nat) : Int)) ∈ idsTm k l
  | u :: l, k, 0, _ => List.mem_cons_self ..
  | u :: l, k, i + 1, hi => by
    have := idsTm_in (l := l) (k + 1) i (by simpa using hi)
    rw [show k + 1 + i + 1 = k + (i + 1) + 1 by omega] at this
    exact List.mem_cons_of_mem _ this

/-- a dict at db: its terms (a row of its own above B), their numbers -/
structure DictAt (w : World) (db mb B : Nat) (v : Value) (l : List Tm) : Prop where
  cells : w.heap[db]? = some (.cells #[v, .map (some mb)] 77)
  own : w.ownsRow B 25 3 v l.length (l.flatMap encTm)
  ids : MapAt Tryd.prog 25 w mb (idsTm 0 l)
  ne : db ≠ mb
theorem DictAt.ext {w w' : World} {db mb B : Nat} {v : Value} {l : List Tm} (h : DictAt w db mb B v l) (hx : Ext w w') : DictAt w' db mb B v l :=
  ⟨heap_ext hx h.cells, own_ext h.own hx, h.ids.ext hx, h.ne⟩

theorem dictNew_any (w : World) : Calls Tryd.prog 16 #[] w fun e w' => ∃ db mb, e = .returned (.pointer (some ⟨db, 0, none⟩)) ∧ DictAt w' db mb w.heap.size (.slice none 0 0) [] ∧ w.heap.size ≤ db ∧ w.heap.size ≤ mb ∧ Ext w w' := by
  have hmm := @run_makeMap Tryd.prog
  go_enter Tryd.func16, Tryd.ntmps16
  go_wp2
  go_ret
  refine ⟨w.heap.size + 1, w.heap.size, rfl, ⟨?_, World.ownsRow_nil _ _ _ _, ?_, by omega⟩, by omega, by omega, ((Ext.refl _).alloc _).alloc _⟩
  · have := alloc_heap_new (w.alloc (.map #[] 0)) (.cells #[.slice none 0 0, .map (some w.heap.size)] 77)
    simpa using this
  · exact (MapAt.made _ _ w).ext ((Ext.refl _).alloc _)

theorem dictLen_any {w : World} {db mb B : Nat} {v : Value} {l : List Tm} (h : DictAt w db mb B v l) :
    Calls Tryd.prog 19 #[.pointer (some ⟨db, 0, none⟩)] w fun e w' => e = .returned (.int .i64 (l.length : Nat)) ∧ w' = w := by
  have A := cells_at h.cells
  obtain ⟨hlen, ⟨rfl, h0⟩ | ⟨g, cap, cur, rfl, _⟩⟩ := h.own
  · rw [h0]
    clear h
    go_enter Tryd.func19, Tryd.ntmps19
    go_wp2
    go_ret
    exact ⟨rfl, rfl⟩
  · clear h
    go_enter Tryd.func19, Tryd.ntmps19
    go_wp2
    go_ret
    exact ⟨rfl, rfl⟩

theorem zeroInt (w : World) : (zeroValue 3).run Tryd.prog w = .ok (.int .i64 0) w := by kernel_rfl
theorem zeroBool (w : World) : (zeroValue 4).run Tryd.prog w = .ok (.bool false) w := by kernel_rfl

/-- add: one that has its number -/
theorem dictAdd_known {w : World} {db mb B : Nat} {v : Value} {l : List Tm} (h : DictAt w db mb B v l) (i : Nat) (hi : i < l.length) (t : Tm) (ht : t = l[i]) (hk : TmKey t) :
    Calls Tryd.prog 37 #[.pointer (some ⟨db, 0, none⟩), vTm t] w fun e w' => e = .returned (.int .i64 ((i + 1 : Nat) : Int)) ∧ Ext w w' := by
  obtain ⟨kl, hkl⟩ := keyTm hk
  have hin : (vTm t, Value.int .i64 ((i : Int) + 1)) ∈ idsTm 0 l := by have := idsTm_in 0 i hi; rw [Nat.zero_add] at this; rw [ht]; exact this
  have hlk := fun W (hW : Ext w W) c => (h.ext hW).ids.look_hit (t := 75) Tryd.underlying75 keysTm hkl hin c
  obtain ⟨k, s, g⟩ := t
  have hc := h.cells
  have HL := Lib.hid hlk
  clear hlk h ht hin hk hkl
  go_enter Tryd.func37, Tryd.ntmps37
  go_upto_region 1 with fail
  have hx := (Ext.refl w).alloc (.cells #[.int .i64 k, .string s, .string g] 25)
  have hbx := alloc_heap_new w (.cells #[.int .i64 k, .string s, .string g] 25)
  have hcx := heap_ext hx hc
  generalize hwb : World.alloc w _ = wb at hx hbx hcx ⊢
  clear hwb
  have A := Later.cells hcx
  have X := Later.cells hbx
  have hl1 := fun (x : Later wb) => HL.out x.wd (hx.trans x.ext) false
  refine wp_region_ext [0, 1, 2, 3, 4, 5, 6] [] (by kernel_rfl) (by kernel_rfl) ?_
  simp only [List.filterMap_cons, List.filterMap_nil, List.getElem?_cons_succ, List.getElem?_cons_zero]
  repeat (first | ((with_reducible refine wpFr_yes ?hw ?_); (case hw => rfl); intro K hK; go_simp; (first | (refine hK _ ?_; clear hK K) | (apply Exists.intro; refine ⟨fun x => ?_, hK _ ?_⟩; (fail); clear hK K))) | ((with_reducible refine wpFr_not ?hw ?_); (case hw => rfl); intro K hK; go_simp; (refine hK _ ?_; clear hK K)))
  refine wpFr_nil ?_
  refine wpTl_nil fun x hxx => ?_
  have h0 : ((i : Int) + 1 == 0) = false := beq_eq_false_iff_ne.2 (by omega)
  clear hl1
  go_upto_region 4 with fail
  clear h0
  have hxw := hx.trans hxx
  have A := Later.cells (heap_ext hxx hcx)
  have X := Later.cells (heap_ext hxx hbx)
  have hl1 := fun (y : Later x) => HL.out y.wd (hxw.trans y.ext) false
  clear hcx hbx hx hxx
  refine wp_region_ext [0, 1, 2, 3, 4, 5, 6] [] (by kernel_rfl) (by kernel_rfl) ?_
  simp only [List.filterMap_cons, List.filterMap_nil, List.getElem?_cons_succ, List.getElem?_cons_zero]
  repeat (first | ((with_reducible refine wpFr_yes ?hw ?_); (case hw => rfl); intro K hK; go_simp; (first | (refine hK _ ?_; clear hK K) | (apply Exists.intro; refine ⟨fun x => ?_, hK _ ?_⟩; (fail); clear hK K))) | ((with_reducible refine wpFr_not ?hw ?_); (case hw => rfl); intro K hK; go_simp; (refine hK _ ?_; clear hK K)))
  refine wpFr_nil ?_
  refine wpTl_nil fun y hyy => ?_
  clear hl1 A X
  go_wp2
  go_ret
  exact ⟨rfl, hxw.trans hyy⟩

theorem encTm_len : ∀ t : Tm, (encTm t).length = 3 := fun _ => rfl
theorem flat_snoc {α : Type} (enc : α → List Value) (l : List α) (x : α) : (l ++ [x]).flatMap enc = l.flatMap enc ++ enc x := by simp

/-- add: one that is fresh -/
theorem dictAdd_fresh {w : World} {db mb B : Nat} {v : Value} {l : List Tm} (h : DictAt w db mb B v l) (hBd : B ≤ db) (hBm : B ≤ mb) (hBw : B ≤ w.heap.size) (t : Tm) (hout : t ∉ l) (hk : TmKey t) (hn : l.length ≤ 1000) :
    Calls Tryd.prog 37 #[.pointer (some ⟨db, 0, none⟩), vTm t] w fun e w' => e = .returned (.int .i64 ((l.length : Int) + 1)) ∧ ∃ v', DictAt w' db mb B v' (l ++ [t]) ∧ Below B w w' := by
  obtain ⟨kl, hkl⟩ := keyTm hk
  have hlk := fun W (hW : Ext w W) c => (h.ext hW).ids.look_miss (t := 75) Tryd.underlying75 keysTm hkl (idsTm_out 0 hout) (zeroInt _) c
  have hout' := idsTm_out 0 hout
  obtain ⟨k, s, g⟩ := t
  have hc := h.cells
  have HL := Lib.hid (And.intro hlk (And.intro h (And.intro hout' hkl)))
  clear hlk h hout hk hkl hout'
  obtain ⟨i0, z, hi, hz0, hz1, hz2, hz3⟩ : ∃ i z, Tryd.prog.info? 25 = some i ∧ i.zero = some z ∧ i.size = 3 ∧ i.bytes = 40 ∧ z.cells.size = 3 := ⟨_, _, rfl, rfl, rfl, rfl, rfl⟩
  go_enter Tryd.func37, Tryd.ntmps37
  go_upto_region 1 with fail
  have hx := (Ext.refl w).alloc (.cells #[.int .i64 k, .string s, .string g] 25)
  have hbx := alloc_heap_new w (.cells #[.int .i64 k, .string s, .string g] 25)
  have hcx := heap_ext hx hc
  generalize hwb : World.alloc w _ = wb at hx hbx hcx ⊢
  clear hwb
  have A := Later.cells hcx
  have X := Later.cells hbx
  have hl1 := fun (x : Later wb) => HL.out.1 x.wd (hx.trans x.ext) false
  refine wp_region_ext [0, 1, 2, 3, 4, 5, 6] [] (by kernel_rfl) (by kernel_rfl) ?_
  simp only [List.filterMap_cons, List.filterMap_nil, List.getElem?_cons_succ, List.getElem?_cons_zero]
  repeat (first | ((with_reducible refine wpFr_yes ?hw ?_); (case hw => rfl); intro K hK; go_simp; (first | (refine hK _ ?_; clear hK K) | (apply Exists.intro; refine ⟨fun x => ?_, hK _ ?_⟩; (fail); clear hK K))) | ((with_reducible refine wpFr_not ?hw ?_); (case hw => rfl); intro K hK; go_simp; (refine hK _ ?_; clear hK K)))
  refine wpFr_nil ?_
  refine wpTl_nil fun x hxx => ?_
  have hxw := hx.trans hxx
  clear hl1 A X
  replace hcx := heap_ext hxx hcx
  replace hbx := heap_ext hxx hbx
  clear hx hxx
  go_upto_region 2 with fail
  have A := InC.cells (w0 := x) (C := fun W => W.heap[db]? = some (.cells #[v, .map (some mb)] 77) ∧ W.heap[w.heap.size]? = some (.cells #[.int .i64 k, .string s, .string g] 25)) ⟨hcx, hbx⟩ (fun _ h => h.1)
  have X := InC.cells (w0 := x) (C := fun W => W.heap[db]? = some (.cells #[v, .map (some mb)] 77) ∧ W.heap[w.heap.size]? = some (.cells #[.int .i64 k, .string s, .string g] 25)) ⟨hcx, hbx⟩ (fun _ h => h.2)
  refine wp_region_last (fun W => W.heap[db]? = some (.cells #[v, .map (some mb)] 77) ∧ W.heap[w.heap.size]? = some (.cells #[.int .i64 k, .string s, .string g] 25)) [0, 1, 2, 3, 4, 5] [6, 7, 8, 9] 10 (by kernel_rfl) rfl (by kernel_rfl) (fun _ _ h k => ⟨heap_ext k h.1, heap_ext k h.2⟩) (⟨hcx, hbx⟩) ?_
  simp only [List.filterMap_cons, List.filterMap_nil, List.getElem?_cons_succ, List.getElem?_cons_zero]
  repeat (first | ((with_reducible refine wpFr_yes ?hw ?_); (case hw => rfl); intro K hK; go_simp; (first | (refine hK _ ?_; clear hK K) | (apply Exists.intro; refine ⟨fun x => ?_, hK _ ?_⟩; (fail); clear hK K))) | ((with_reducible refine wpFr_not ?hw ?_); (case hw => rfl); intro K hK; go_simp; (refine hK _ ?_; clear hK K)))
  refine wpFr_nil ?_
  refine wpTz_step (fun W K hW hK => ?_)
  go_simp
  have hcW := heap_ext (hW.alloc (.cells #[.int .i64 k, .string s, .string g] 25)) hcx
  have hbW := heap_ext (hW.alloc (.cells #[.int .i64 k, .string s, .string g] 25)) hbx
  have hxW := hxw.trans (hW.alloc (.cells #[.int .i64 k, .string s, .string g] 25))
  refine ⟨⟨hcW, hbW⟩, hK _ _ ?_⟩
  clear hK K hcx hbx A X
  refine wpTz_step (fun W1 K hW1 hK => ?_)
  rw [if_pos (by rfl)]
  have hx1 := hxW.trans hW1
  refine okE_append_own rfl Tryd.underlying49 hi hz0 hz1 hz2 hz3 (by decide) (v := v) rfl (own_ext HL.out.2.1.own hx1) (news := [.int .i64 k, .string s, .string g]) rfl rfl (fun j u hj => hW1.cell (cells_new W #[.int .i64 k, .string s, .string g] 25 W.heap.size rfl j u hj)) (fun u hu => by simp at hu; rcases hu with rfl | rfl | rfl <;> rfl) (by unfold maxLen; omega) (by omega) (Nat.le_trans hBw hx1.size) ?_
  intro v' w' hown' hgrow
  obtain ⟨gb, cap, rfl⟩ : ∃ gb cap, v' = .slice (some ⟨gb, 0, none⟩) (l.length + 1) cap := by
    obtain ⟨_, ⟨_, h0⟩ | ⟨gb, cap, cur, rfl, _⟩⟩ := hown'
    · omega
    · exact ⟨gb, cap, rfl⟩
  have hD1 := HL.out.2.1.ext hx1
  have hc' : w'.heap[db]? = some (.cells #[v, .map (some mb)] 77) := keep_other hD1.own (Ext.refl W1) hgrow hD1.cells (by decide)
  have hlt : w.heap.size < W1.heap.size := Nat.lt_of_lt_of_le (Array.getElem?_eq_some_iff.1 hbW).1 hW1.size
  have hnb : ∀ j, some j = v.ownBlock → j < w.heap.size := fun j hj => (HL.out.2.1.own.lt j hj.symm).2
  have hb' : w'.heap[w.heap.size]? = some (.cells #[.int .i64 k, .string s, .string g] 25) := by
    rw [hgrow.block _ hlt (fun e => absurd (hnb _ e) (Nat.lt_irrefl _))]; exact heap_ext hW1 hbW
  have hm' : MapAt Tryd.prog 25 w' mb (idsTm 0 l) := by
    refine hD1.ids.same (hgrow.block _ hD1.ids.lt fun e => ?_)
    obtain ⟨es, clock, h1, _⟩ := HL.out.2.1.ids
    obtain ⟨_, ⟨rfl, _⟩ | ⟨g', cap, cur, rfl, _, hcur, _⟩⟩ := HL.out.2.1.own
    · cases e
    · simp [Value.ownBlock] at e
      subst e
      rw [h1] at hcur
      cases hcur
  have hB' : Below B w w' := (Below.mono hx1 hBw).trans (Below.grown (Below.refl _ _) hgrow (Nat.le_trans hBw hx1.size) fun j hj => (HL.out.2.1.own.lt j hj).1)
  refine ⟨⟨hc', hb'⟩, hK _ _ ?_⟩
  clear hK K hcW hbW hxW hW hW1 hx1 hgrow hD1 hlt hnb hxw
  refine wpTz_step (fun W2 K hW2 hK => ?_)
  go_simp
  refine ⟨⟨heap_ext hW2 hc', heap_ext hW2 hb'⟩, hK _ _ ?_⟩
  clear hK K
  refine wpTz_step (fun W3 K hW3 hK => ?_)
  go_simp
  refine ⟨⟨heap_ext (hW2.trans hW3) hc', heap_ext (hW2.trans hW3) hb'⟩, hK _ _ ?_⟩
  clear hK K
  refine wpTz_last (fun W4 K hW4 hK => ?_)
  have hx4 := (hW2.trans hW3).trans hW4
  replace hc' := heap_ext hx4 hc'
  replace hb' := heap_ext hx4 hb'
  replace hm' := hm'.ext hx4
  replace hown' := own_ext hown' hx4
  have hsz' := hB'.size
  replace hB' := Below.ext hB' hx4 (Nat.le_trans hBw hsz')
  clear hx4 hW2 hW3 hW4
  have d0 : W4.cell? ⟨db, 0, none⟩ = some v := cells_at hc' 0
  have fz : ∀ i, W4.frozen? ⟨db, i, none⟩ = false := fun i => by simp [World.frozen?, hc']
  go_simp
  refine hK _ _ (fun y hyy => ?_)
  clear hK K
  have hwS : ∀ W, W = W4.setCell ⟨db, 0, none⟩ (.slice (some ⟨gb, 0, none⟩) (l.length + 1) cap) → W.heap[db]? = some (.cells #[.slice (some ⟨gb, 0, none⟩) (l.length + 1) cap, .map (some mb)] 77) ∧ W.heap[w.heap.size]? = some (.cells #[.int .i64 k, .string s, .string g] 25) ∧ MapAt Tryd.prog 25 W mb (idsTm 0 l) ∧ W.ownsRow B 25 3 (.slice (some ⟨gb, 0, none⟩) (l.length + 1) cap) (l.length + 1) (l.flatMap encTm ++ [.int .i64 k, .string s, .string g]) ∧ Below B w W := by
    rintro W rfl
    have ho : ∀ j, j ≠ db → (W4.setCell ⟨db, 0, none⟩ (.slice (some ⟨gb, 0, none⟩) (l.length + 1) cap)).heap[j]? = W4.heap[j]? := fun j hj => Below.heap_setCell _ _ _ _ hj
    refine ⟨heap_setCell_same W4 db 0 _ _ _ hc', ?_, hm'.same (ho _ (Ne.symm HL.out.2.1.ne)), ?_, hB'.setCell hBd _⟩
    · rw [ho]
      · exact hb'
      · intro e
        rw [e, hc'] at hb'
        cases hb'
    · obtain ⟨h1, h2 | ⟨g', cap', cur, e1, e2, hcur, r⟩⟩ := hown'
      · exact ⟨h1, .inl h2⟩
      · refine ⟨h1, .inr ⟨g', cap', cur, e1, e2, ?_, r⟩⟩
        rw [ho]
        · exact hcur
        · intro e
          rw [e, hc'] at hcur
          cases hcur
  have hy := hwS _ rfl
  clear hwS
  generalize W4.setCell ⟨db, 0, none⟩ (.slice (some ⟨gb, 0, none⟩) (l.length + 1) cap) = wS at hy hyy ⊢
  obtain ⟨s1, s2, s3, s4, s5⟩ := hy
  replace s1 := heap_ext hyy s1
  replace s2 := heap_ext hyy s2
  replace s3 := s3.ext hyy
  replace s4 := own_ext s4 hyy
  replace s5 := Below.ext s5 hyy (Nat.le_trans hBw s5.size)
  clear hc' hb' hm' hown' hB' d0 fz hyy
  have HS := Lib.hid (And.intro s3 (And.intro s4 s5))
  clear s3 s4 s5
  go_upto_region 3 with fail
  have A := InC.cells (w0 := y) (C := fun W => W.heap[db]? = some (.cells #[.slice (some ⟨gb, 0, none⟩) (l.length + 1) cap, .map (some mb)] 77) ∧ W.heap[w.heap.size]? = some (.cells #[.int .i64 k, .string s, .string g] 25)) ⟨s1, s2⟩ (fun _ h => h.1)
  have X := InC.cells (w0 := y) (C := fun W => W.heap[db]? = some (.cells #[.slice (some ⟨gb, 0, none⟩) (l.length + 1) cap, .map (some mb)] 77) ∧ W.heap[w.heap.size]? = some (.cells #[.int .i64 k, .string s, .string g] 25)) ⟨s1, s2⟩ (fun _ h => h.2)
  refine wp_region_class (fun W => W.heap[db]? = some (.cells #[.slice (some ⟨gb, 0, none⟩) (l.length + 1) cap, .map (some mb)] 77) ∧ W.heap[w.heap.size]? = some (.cells #[.int .i64 k, .string s, .string g] 25)) [0, 1, 2, 3, 4, 5, 6, 7, 8, 9] [10] (by kernel_rfl) (by kernel_rfl) (fun _ _ h k => ⟨heap_ext k h.1, heap_ext k h.2⟩) (⟨s1, s2⟩) ?_
  simp only [List.filterMap_cons, List.filterMap_nil, List.getElem?_cons_succ, List.getElem?_cons_zero]
  repeat (first | ((with_reducible refine wpFr_yes ?hw ?_); (case hw => rfl); intro K hK; go_simp; (first | (refine hK _ ?_; clear hK K) | (apply Exists.intro; refine ⟨fun x => ?_, hK _ ?_⟩; (fail); clear hK K))) | ((with_reducible refine wpFr_not ?hw ?_); (case hw => rfl); intro K hK; go_simp; (refine hK _ ?_; clear hK K)))
  refine wpFr_nil ?_
  refine wpTl_step fun W K hW hK => ?_
  obtain ⟨Wm, hrun, hmap, hturn⟩ := (HS.out.1.ext hW).put_miss (t := 75) Tryd.underlying75 keysTm HL.out.2.2.2 HL.out.2.2.1 (value := .int .i64 ((l.length : Int) + 1))
  go_simp
  have s1' := (hturn.other db HL.out.2.1.ne).trans (heap_ext hW s1)
  have s2' := (hturn.other w.heap.size (Nat.ne_of_gt HL.out.2.1.ids.lt)).trans (heap_ext hW s2)
  refine ⟨⟨s1', s2'⟩, hK _ _ ?_⟩
  clear hK K A X hrun s1 s2
  have hown2 : Wm.ownsRow B 25 3 (.slice (some ⟨gb, 0, none⟩) (l.length + 1) cap) (l.length + 1) (l.flatMap encTm ++ [.int .i64 k, .string s, .string g]) := by
    obtain ⟨es, clock, h1, _⟩ := HS.out.1
    obtain ⟨a1, h2 | ⟨g', cap', cur, e1, e2, hcur, r⟩⟩ := HS.out.2.1
    · exact ⟨a1, .inl h2⟩
    · refine ⟨a1, .inr ⟨g', cap', cur, e1, e2, ?_, r⟩⟩
      rw [hturn.other g' (fun e => by subst e; rw [h1] at hcur; cases hcur)]
      exact heap_ext hW hcur
  have hb2 : Below B w Wm := (Below.ext HS.out.2.2 hW (Nat.le_trans hBw HS.out.2.2.size)).trans (hturn.below hBm (Below.refl _ _))
  have hD2 : DictAt Wm db mb B (.slice (some ⟨gb, 0, none⟩) (l.length + 1) cap) (l ++ [⟨k, s, g⟩]) := by
    refine ⟨s1', ?_, ?_, HL.out.2.1.ne⟩
    · rw [flat_snoc, List.length_append]; exact hown2
    · rw [idsTm_snoc]
      simp only [Nat.zero_add]
      exact hmap
  have hin : (vTm ⟨k, s, g⟩, Value.int .i64 ((l.length : Int) + 1)) ∈ idsTm 0 (l ++ [⟨k, s, g⟩]) := by
    rw [idsTm_snoc]
    simp
  have hlk := fun W' (hW' : Ext Wm W') c => (hD2.ext hW').ids.look_hit (t := 75) Tryd.underlying75 keysTm HL.out.2.2.2 hin c
  have HF := Lib.hid (And.intro hlk (And.intro hD2 hb2))
  clear hlk hD2 hb2 hown2 hmap hturn HS hW hin
  refine wpTl_nil fun u hu => ?_
  go_upto_region 4 with fail
  have A := Later.cells (heap_ext hu s1')
  have X := Later.cells (heap_ext hu s2')
  have hl1 := fun (y : Later u) => HF.out.1 y.wd (hu.trans y.ext) false
  clear s1' s2'
  refine wp_region_ext [0, 1, 2, 3, 4, 5, 6] [] (by kernel_rfl) (by kernel_rfl) ?_
  simp only [List.filterMap_cons, List.filterMap_nil, List.getElem?_cons_succ, List.getElem?_cons_zero]
  repeat (first | ((with_reducible refine wpFr_yes ?hw ?_); (case hw => rfl); intro K hK; go_simp; (first | (refine hK _ ?_; clear hK K) | (apply Exists.intro; refine ⟨fun x => ?_, hK _ ?_⟩; (fail); clear hK K))) | ((with_reducible refine wpFr_not ?hw ?_); (case hw => rfl); intro K hK; go_simp; (refine hK _ ?_; clear hK K)))
  refine wpFr_nil ?_
  refine wpTl_nil fun y2 hy2 => ?_
  clear hl1 A X
  go_wp2
  go_ret
  exact ⟨rfl, _, HF.out.2.1.ext (hu.trans hy2), Below.ext HF.out.2.2 (hu.trans hy2) (Nat.le_trans hBw HF.out.2.2.size)⟩
end Go.Proofs.YtommohepbpdmdaaDoor
