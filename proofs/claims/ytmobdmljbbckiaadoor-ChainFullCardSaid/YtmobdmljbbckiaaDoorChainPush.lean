/- (*Chain).Push. -/
import Derived.Test.YtmobdmljbbckiaaDoorChainGraph
import Derived.Test.YtmobdmljbbckiaaDoorAppend
namespace Go.Proofs.YtmobdmljbbckiaaDoor
open Go.RowKit
set_option maxHeartbeats 3200000
set_option maxRecDepth 100000

theorem infoLy : ∃ i z, Tryd.prog.info? 43 = some i ∧ i.zero = some z ∧ i.size = 2 ∧ i.bytes = 48 ∧ z.cells.size = 2 := ⟨_, _, rfl, rfl, rfl, rfl, rfl⟩
/-- all blocks stay, but for layers and chains -/
def KeptT (w w' : World) : Prop := ∀ (g : Nat) (c : Array Value) (e : TypeId) (f : Nat × Nat), w.heap[g]? = some (.cells c e f) → e ≠ 43 → e ≠ 64 → w'.heap[g]? = some (.cells c e f)
theorem KeptT.of_ext {w w' : World} (h : Ext w w') : KeptT w w' := fun _ _ _ _ hh _ _ => heap_ext h hh
theorem KeptT.trans {a b c : World} (h : KeptT a b) (k : KeptT b c) : KeptT a c := fun g c e f hh h1 h2 => k g c e f (h g c e f hh h1 h2) h1 h2
theorem KeptT.own {w w' : World} {B : Nat} {v : Value} {l : List Tr} (h : KeptT w w') (ho : OwnSet B w v l) : OwnSet B w' v l := by
  obtain ⟨h1, h2 | ⟨g, cap, cur, e1, e2, hcur, r⟩⟩ := ho
  · exact ⟨h1, .inl h2⟩
  · exact ⟨h1, .inr ⟨g, cap, cur, e1, e2, h _ _ _ _ hcur (by decide) (by decide), r⟩⟩
theorem KeptT.set {w w' : World} {B : Nat} {v : Value} {l : List Tr} (h : KeptT w w') (ho : SetVal B w v l) : SetVal B w' v l := by
  obtain ⟨p, c, e, o⟩ := ho; exact ⟨p, c, e, h.own o⟩
theorem KeptT.setCell {w : World} {cb : Nat} {c : Array Value} {f : Nat × Nat} (hc : w.heap[cb]? = some (.cells c 64 f)) (i : Nat) (u : Value) : KeptT w (w.setCell ⟨cb, i, none⟩ u) := fun g c' e f' hh _ h2 => by
  rw [Below.heap_setCell _ _ _ _ (fun e => by subst e; rw [hc] at hh; cases hh; exact h2 rfl)]
  exact hh

theorem chainPush_full {w : World} {cb B : Nat} {vb v : Value} {base : List Tr} {ps : List PV} {ys : List Ly} (h : ChainAt w cb B vb v base ps ys) (va vt : Value) (y : Ly) (ha : Reads encTr w va y.add) (ht : Reads encTr w vt y.take) (hf : 30 ≤ ps.length) :
    Calls Tryd.prog 11 #[.pointer (some ⟨cb, 0, none⟩), .agg #[va, vt]] w fun e w' => e = .returned (eV 4) ∧ Ext w w' := by
  have hcell := h.cells
  obtain ⟨av, cv, rfl⟩ := sliceOf_own h.own
  obtain ⟨pb, cbb, rfl, _⟩ := h.base
  obtain ⟨aa, ca, rfl⟩ := ha.slice
  obtain ⟨at', ct, rfl⟩ := ht.slice
  have hx0 := (Ext.refl w).alloc (.cells #[.slice aa y.add.length ca, .slice at' y.take.length ct] 43)
  have h30 : (30 : Int) ≤ (ps.length : Int) := by omega
  clear h ha ht hf
  go_enter Tryd.func11, Tryd.ntmps11
  go_upto_region 1 with fail
  generalize hwb : World.alloc w _ = wb at hx0 ⊢
  clear hwb
  have A := cells_at (heap_ext hx0 hcell)
  go_wp2
  go_ret
  exact ⟨rfl, hx0⟩

/-- what the operations of 'graph, Apply' leave -/
def pushR (B : Nat) (G : List Tr) (i : Nat) (v : Value) (W : World) : Prop :=
  match i with
  | 6 => SetVal B W v G
  | 8 => ∃ p n c, v = .tuple #[.slice p n c, .nilIface]
  | 9 => ∃ p n c, v = .tuple #[.slice p n c, .nilIface]
  | 10 => ∃ p n c, v = .slice p n c
  | 11 => v = .nilIface
  | _ => True
theorem pushR_ext (B : Nat) (G : List Tr) (i : Nat) (v : Value) (w w' : World) (h : pushR B G i v w) (hx : Ext w w') : pushR B G i v w' := by
  unfold pushR at *
  split at h <;> first | exact SetVal.ext h hx | exact h | trivial

theorem chainPush_ok {w : World} {cb B : Nat} {vb v : Value} {base : List Tr} {ps : List PV} {ys : List Ly} (h : ChainAt w cb B vb v base ps ys) (va vt : Value) (y : Ly) (ha : Reads encTr w va y.add) (ht : Reads encTr w vt y.take) (hf : ps.length < 30)
    (hb : base.length ≤ 200) (hy : ∀ y ∈ ys, lyErr y = none) (hap : applyErr (graphL base ys) y = none) (hBw : B ≤ w.heap.size) (hBc : B ≤ cb) :
    Calls Tryd.prog 11 #[.pointer (some ⟨cb, 0, none⟩), .agg #[va, vt]] w fun e w' => e = .returned .nilIface ∧ ∃ v' p, ChainAt w' cb B vb v' base (ps ++ [p]) (ys ++ [y]) ∧ KeptT w w' ∧ Below B w w' := by
  have hcell := h.cells
  obtain ⟨av, cv, rfl⟩ := sliceOf_own h.own
  obtain ⟨pb, cbb, hvb, _⟩ := h.base
  have hlen := h.len
  have hgr := fun W (hW : Ext w W) => chainGraph_any (h.ext hW) ps.length (Nat.le_refl _) hb hy (by omega)
  rw [show ys.take ps.length = ys by rw [hlen, List.take_length]] at hgr
  obtain ⟨_, ey, _⟩ := applyErr_none hap
  obtain ⟨sa, st⟩ := lyErr_none ey
  generalize graphL base ys = G at hgr hap
  have happ := fun W vg (hW : Ext w W) (hg : Reads encTr W vg G) => apply_ok vg va vt G y W hg (ha.ext hW) (ht.ext hW) hap
  have hown := fun W (hW : Ext w W) => chainOwn_any va vt y.add y.take W (ha.ext hW) (ht.ext hW) (Nat.le_trans sa.1 (by decide)) (Nat.le_trans st.1 (by decide))
  obtain ⟨aa, ca, rfl⟩ := ha.slice
  obtain ⟨at', ct, rfl⟩ := ht.slice
  have hx0 := (Ext.refl w).alloc (.cells #[.slice aa y.add.length ca, .slice at' y.take.length ct] 43)
  have hb0 := alloc_heap_new w (.cells #[.slice aa y.add.length ca, .slice at' y.take.length ct] 43)
  have h30 : ¬ (30 : Int) ≤ (ps.length : Int) := by omega
  obtain ⟨i0, z0, hi, hz0, hz1, hz2, hz3⟩ := infoLy
  have HH := Lib.hid (And.intro hgr (And.intro happ (And.intro hown (And.intro h hlen))))
  have HV := Lib.hid hvb
  clear hgr happ hown h ha ht sa st ey hap hy hb hlen
  subst hvb
  clear HV
  go_enter Tryd.func11, Tryd.ntmps11
  go_upto_region 1 with fail
  generalize hwb : World.alloc w _ = wb at hx0 hb0 ⊢
  clear hwb
  have A := cells_at (heap_ext hx0 hcell)
  go_upto_region 3 with fail
  clear A
  have A := Later.cells (heap_ext hx0 hcell)
  have X := Later.cells hb0
  have HX := Lib.hid (And.intro hx0 hb0)
  clear hx0 hb0
  refine wp_region_treez (Ext wb) [0, 1, 2, 3, 4, 5, 7] ([6, 8, 9, 10, 11, 12].length + 1) 13 (by kernel_rfl) (by kernel_rfl) (fun _ _ h k => h.trans k) (Ext.refl wb) ?_
  simp only [List.filterMap_cons, List.filterMap_nil, List.getElem?_cons_succ, List.getElem?_cons_zero]
  repeat (first | ((with_reducible refine wpFr_yes ?hw ?_); (case hw => rfl); intro K hK; go_simp; (first | (refine hK _ ?_; clear hK K) | (apply Exists.intro; refine ⟨fun x => ?_, hK _ ?_⟩; (fail); clear hK K))) | ((with_reducible refine wpFr_not ?hw ?_); (case hw => rfl); intro K hK; go_simp; (refine hK _ ?_; clear hK K)))
  refine wpFr_nil ?_
  refine wpE_steps [6, 8, 9, 10, 11, 12] (fun i => match i with | 6 => [] | 8 => [6] | 9 => [8] | 10 => [9] | 11 => [9] | 12 => [10] | _ => []) ?R rfl (by kernel_rfl) (fun _ _ h k => h.trans k) (Ext.refl wb) ?hR ?hstep ?hend
  case R => exact pushR B G
  case hR => exact pushR_ext B G
  case hstep =>
    simp only [stepsOk, List.getElem?_toArray, List.getElem?_cons_succ, List.getElem?_cons_zero]
    refine ⟨?s6, ?s8, ?s9, ?s10, ?s11, ?s12, trivial⟩
    case s6 =>
      intro f W hW hd
      have hwW := HX.out.1.trans hW
      simp only [putAll, dstOf, List.getElem?_toArray, List.getElem?_cons_succ, List.getElem?_cons_zero, Option.bind_some]
      refine opI_yes rfl ?_
      go_simp
      refine (HH.out.1 W hwW).mono ?_
      rintro e w' ⟨p, c, rfl, ho, hx⟩
      exact ⟨_, rfl, hx, ⟨p, c, rfl, ho.mono (Nat.le_trans hBw hwW.size)⟩⟩
    case s8 =>
      intro f W hW hd
      have hwW := HX.out.1.trans hW
      have h6 : SetVal B W (f 6) G := hd 6 (by simp)
      obtain ⟨p6, c6, e6, o6⟩ := h6.out
      simp only [putAll, dstOf, List.getElem?_toArray, List.getElem?_cons_succ, List.getElem?_cons_zero, Option.bind_some]
      rw [e6]
      refine opI_yes rfl ?_
      go_simp
      refine (HH.out.2.1 W _ hwW o6.reads).mono ?_
      rintro e w' ⟨p, c, rfl, _, hx⟩
      exact ⟨_, rfl, hx, ⟨p, _, c, rfl⟩⟩
    case s9 =>
      intro f W hW hd
      obtain ⟨p8, n8, c8, e8⟩ : ∃ p n c, f 8 = .tuple #[.slice p n c, .nilIface] := hd 8 (by simp)
      simp only [putAll, dstOf, List.getElem?_toArray, List.getElem?_cons_succ, List.getElem?_cons_zero, Option.bind_some]
      rw [e8]
      refine opI_yes rfl ?_
      go_simp
      exact ⟨Ext.refl _, ⟨_, _, _, rfl⟩⟩
    case s10 =>
      intro f W hW hd
      obtain ⟨p9, n9, c9, e9⟩ : ∃ p n c, f 9 = .tuple #[.slice p n c, .nilIface] := hd 9 (by simp)
      simp only [putAll, dstOf, List.getElem?_toArray, List.getElem?_cons_succ, List.getElem?_cons_zero, Option.bind_some]
      rw [e9]
      refine opI_yes rfl ?_
      go_simp
      exact ⟨Ext.refl _, ⟨_, _, _, rfl⟩⟩
    case s11 =>
      intro f W hW hd
      obtain ⟨p9, n9, c9, e9⟩ : ∃ p n c, f 9 = .tuple #[.slice p n c, .nilIface] := hd 9 (by simp)
      simp only [putAll, dstOf, List.getElem?_toArray, List.getElem?_cons_succ, List.getElem?_cons_zero, Option.bind_some]
      rw [e9]
      refine opI_yes rfl ?_
      go_simp
      exact ⟨Ext.refl _, rfl⟩
    case s12 =>
      intro f W hW hd
      obtain ⟨p10, n10, c10, e10⟩ : ∃ p n c, f 10 = .slice p n c := hd 10 (by simp)
      simp only [putAll, dstOf, List.getElem?_toArray, List.getElem?_cons_succ, List.getElem?_cons_zero, Option.bind_some]
      rw [e10]
      refine opI_yes rfl ?_
      go_simp
      exact ⟨Ext.refl _, trivial⟩
  case hend =>
    intro f W K hW hr hK
    have h11 : f 11 = .nilIface := hr 11 (by simp)
    clear hr
    simp only [putAll, dstOf, List.getElem?_toArray, List.getElem?_cons_succ, List.getElem?_cons_zero, Option.bind_some]
    rw [h11]
    generalize f 6 = g6
    generalize f 8 = g8
    generalize f 9 = g9
    generalize f 10 = g10
    generalize f 12 = g12
    clear h11
    refine lastI_yes rfl ?_
    go_simp
    refine hK _ _ (fun z hz => ?_)
    clear hK K A X
    have hcz := heap_ext (((HX.out.1.trans hW).trans hz)) hcell
    have hbz := heap_ext (hW.trans hz) HX.out.2
    have hxz := (HX.out.1.trans hW).trans hz
    clear hW hz
    go_upto_region 6 with fail
    have A := InC.cells (w0 := z) (C := fun W => W.heap[cb]? = some (.cells #[.slice pb base.length cbb, .slice av ps.length cv] 64) ∧ W.heap[w.heap.size]? = some (.cells #[.slice aa y.add.length ca, .slice at' y.take.length ct] 43)) ⟨hcz, hbz⟩ (fun _ h => h.1)
    have X := InC.cells (w0 := z) (C := fun W => W.heap[cb]? = some (.cells #[.slice pb base.length cbb, .slice av ps.length cv] 64) ∧ W.heap[w.heap.size]? = some (.cells #[.slice aa y.add.length ca, .slice at' y.take.length ct] 43)) ⟨hcz, hbz⟩ (fun _ h => h.2)
    refine wp_region_last (fun W => W.heap[cb]? = some (.cells #[.slice pb base.length cbb, .slice av ps.length cv] 64) ∧ W.heap[w.heap.size]? = some (.cells #[.slice aa y.add.length ca, .slice at' y.take.length ct] 43)) [0, 1, 2, 3, 4, 5] [6, 7, 8, 9, 10] 11 (by kernel_rfl) rfl (by kernel_rfl) (fun _ _ h k => ⟨heap_ext k h.1, heap_ext k h.2⟩) (⟨hcz, hbz⟩) ?_
    simp only [List.filterMap_cons, List.filterMap_nil, List.getElem?_cons_succ, List.getElem?_cons_zero]
    repeat (first | ((with_reducible refine wpFr_yes ?hw ?_); (case hw => rfl); intro K hK; go_simp; (first | (refine hK _ ?_; clear hK K) | (apply Exists.intro; refine ⟨fun x => ?_, hK _ ?_⟩; (fail); clear hK K))) | ((with_reducible refine wpFr_not ?hw ?_); (case hw => rfl); intro K hK; go_simp; (refine hK _ ?_; clear hK K)))
    refine wpFr_nil ?_
    refine wpTz_step (fun W K hW hK => ?_)
    go_simp
    refine (HH.out.2.2.1 W (hxz.trans hW)).mono ?_
    rintro e W0 ⟨p1, c1, p2, c2, rfl, o1, o2, hx0⟩
    have hxW := hxz.trans (hW.trans hx0)
    replace hcz := heap_ext (hW.trans hx0) hcz
    replace hbz := heap_ext (hW.trans hx0) hbz
    replace o1 := o1.mono (Nat.le_trans hBw (hxz.trans hW).size)
    replace o2 := o2.mono (Nat.le_trans hBw (hxz.trans hW).size)
    refine ⟨_, rfl, ⟨hcz, hbz⟩, hK _ _ ?_⟩
    clear hK K A X hxz hx0 hW
    refine wpTz_step (fun W1 K hW1 hK => ?_)
    go_simp
    have hxA := hW1.alloc (.cells #[.slice p1 y.add.length c1, .slice p2 y.take.length c2] 43)
    replace hcz := heap_ext hxA hcz
    replace hbz := heap_ext hxA hbz
    replace o1 := o1.ext hxA
    replace o2 := o2.ext hxA
    replace hxW := hxW.trans hxA
    refine ⟨⟨hcz, hbz⟩, hK _ _ ?_⟩
    clear hK K hxA
    refine wpTz_step (fun W2 K hW2 hK => ?_)
    rw [if_pos (by rfl)]
    replace hcz := heap_ext hW2 hcz
    replace hbz := heap_ext hW2 hbz
    replace o1 := o1.ext hW2
    replace o2 := o2.ext hW2
    replace hxW := hxW.trans hW2
    refine okE_append_own rfl Tryd.underlying62 hi hz0 hz1 hz2 hz3 (by decide) (v := .slice av ps.length cv) rfl (own_ext HH.out.2.2.2.1.own hxW) (news := [.slice p1 y.add.length c1, .slice p2 y.take.length c2]) rfl rfl (fun j u hj => hW2.cell (cells_new W1 #[.slice p1 y.add.length c1, .slice p2 y.take.length c2] 43 W1.heap.size rfl j u hj)) (fun u hu => by simp at hu; rcases hu with rfl | rfl <;> rfl) (by unfold maxLen; omega) (by omega) (Nat.le_trans hBw hxW.size) ?_
    intro v' w' hown' hgrow
    obtain ⟨gb, cap, rfl⟩ : ∃ gb cap, v' = .slice (some ⟨gb, 0, none⟩) (ps.length + 1) cap := by
      obtain ⟨_, ⟨_, h0⟩ | ⟨gb, cap, cur, rfl, _⟩⟩ := hown'
      · omega
      · exact ⟨gb, cap, rfl⟩
    have hD := HH.out.2.2.2.1.ext hxW
    have hk : KeptT W2 w' := fun g c e f hh h1 _ => keep_other hD.own (Ext.refl W2) hgrow hh h1
    have hc' : w'.heap[cb]? = some (.cells #[.slice pb base.length cbb, .slice av ps.length cv] 64) := keep_other hD.own (Ext.refl W2) hgrow hcz (by decide)
    have hlt : w.heap.size < W2.heap.size := (Array.getElem?_eq_some_iff.1 hbz).1
    have hnb : ∀ j, some j = (Value.slice av ps.length cv).ownBlock → j < w.heap.size := fun j hj => (HH.out.2.2.2.1.own.lt j hj.symm).2
    have hb' : w'.heap[w.heap.size]? = some (.cells #[.slice aa y.add.length ca, .slice at' y.take.length ct] 43) := by
      rw [hgrow.block _ hlt (fun e => absurd (hnb _ e) (Nat.lt_irrefl _))]; exact hbz
    have hB' : Below B w w' := (Below.mono hxW hBw).trans (Below.grown (Below.refl _ _) hgrow (Nat.le_trans hBw hxW.size) fun j hj => (HH.out.2.2.2.1.own.lt j hj).1)
    have hkw := (KeptT.of_ext hxW).trans hk
    replace o1 := hk.own o1
    replace o2 := hk.own o2
    refine ⟨⟨hc', hb'⟩, hK _ _ ?_⟩
    clear hK K hcz hbz hxW hW2 hW1 hgrow hD hlt hnb hk
    refine wpTz_step (fun W5 K hW5 hK => ?_)
    go_simp
    refine ⟨⟨heap_ext hW5 hc', heap_ext hW5 hb'⟩, hK _ _ ?_⟩
    clear hK K
    refine wpTz_step (fun W6 K hW6 hK => ?_)
    go_simp
    refine ⟨⟨heap_ext (hW5.trans hW6) hc', heap_ext (hW5.trans hW6) hb'⟩, hK _ _ ?_⟩
    clear hK K
    refine wpTz_last (fun W4 K hW4' hK => ?_)
    have hW4 := (hW5.trans hW6).trans hW4'
    clear hW5 hW6 hW4'
    replace hc' := heap_ext hW4 hc'
    replace hown' := own_ext hown' hW4
    replace hkw := hkw.trans (KeptT.of_ext hW4)
    replace o1 := o1.ext hW4
    replace o2 := o2.ext hW4
    have hsz' := hB'.size
    replace hB' := Below.ext hB' hW4 (Nat.le_trans hBw hsz')
    clear hW4 hb' hsz'
    have d1 : W4.cell? ⟨cb, 1, none⟩ = some (.slice av ps.length cv) := cells_at hc' 1
    have fz : ∀ i, W4.frozen? ⟨cb, i, none⟩ = false := fun i => by simp [World.frozen?, hc']
    go_simp
    refine hK _ _ (fun u hu => ?_)
    clear hK K
    have hF : ∀ W5, W5 = W4.setCell ⟨cb, 1, none⟩ (.slice (some ⟨gb, 0, none⟩) (ps.length + 1) cap) → ChainAt W5 cb B (.slice pb base.length cbb) (.slice (some ⟨gb, 0, none⟩) (ps.length + 1) cap) base (ps ++ [(.slice p1 y.add.length c1, .slice p2 y.take.length c2)]) (ys ++ [y]) ∧ KeptT w W5 ∧ Below B w W5 := by
      rintro W5 rfl
      have hk2 := KeptT.setCell hc' 1 (.slice (some ⟨gb, 0, none⟩) (ps.length + 1) cap)
      have hk3 := hkw.trans hk2
      refine ⟨⟨?_, ?_, ?_, ?_, fun j a b => ?_⟩, hk3, Below.setCell hB' hBc _⟩
      · exact heap_setCell_same W4 cb 1 _ _ (.slice (some ⟨gb, 0, none⟩) (ps.length + 1) cap) hc'
      · exact hk3.set HH.out.2.2.2.1.base
      · rw [List.length_append, List.flatMap_append]
        exact own_set_other hown' hc' (by decide) 1 _
      · simp [HH.out.2.2.2.2]
      · have hl := HH.out.2.2.2.2
        by_cases hj : j < ps.length
        · have e1 : (ps ++ [(Value.slice p1 y.add.length c1, Value.slice p2 y.take.length c2)])[j] = ps[j] := List.getElem_append_left hj
          have e2 : (ys ++ [y])[j] = ys[j]'(by omega) := List.getElem_append_left (by omega)
          rw [e1, e2]
          obtain ⟨g1, g2⟩ := HH.out.2.2.2.1.each j hj (by omega)
          exact ⟨hk3.set g1, hk3.set g2⟩
        · have hj' : j = ps.length := by simp at a; omega
          subst hj'
          have e1 : (ps ++ [(Value.slice p1 y.add.length c1, Value.slice p2 y.take.length c2)])[ps.length] = (Value.slice p1 y.add.length c1, Value.slice p2 y.take.length c2) := by simp
          have e2 : (ys ++ [y])[ps.length] = y := by simp [hl]
          rw [e1, e2]
          exact ⟨⟨p1, c1, rfl, hk2.own o1⟩, ⟨p2, c2, rfl, hk2.own o2⟩⟩
    generalize W4.setCell ⟨cb, 1, none⟩ (.slice (some ⟨gb, 0, none⟩) (ps.length + 1) cap) = W5 at hF hu ⊢
    obtain ⟨f1, f2, f3⟩ := hF _ rfl
    have HF := Lib.hid (And.intro (f1.ext hu) (And.intro (f2.trans (KeptT.of_ext hu)) (Below.ext f3 hu (Nat.le_trans hBw f3.size))))
    clear f1 f2 f3 hF hu d1 fz o1 o2 hkw hB' hown' hc'
    go_wp2
    go_ret
    exact ⟨rfl, ⟨_, _, _, HF.out.1⟩, HF.out.2.1, HF.out.2.2⟩
end Go.Proofs.YtmobdmljbbckiaaDoor
