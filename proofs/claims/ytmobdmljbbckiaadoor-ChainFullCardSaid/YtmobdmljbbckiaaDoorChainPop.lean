/- (*Chain).Graph, (*Chain).Pop. -/
import Derived.Test.YtmobdmljbbckiaaDoorChainPush
namespace Go.Proofs.YtmobdmljbbckiaaDoor
open Go.RowKit
set_option maxHeartbeats 3200000
set_option maxRecDepth 100000

theorem own_set_ne {w : World} {base : Nat} {e : TypeId} {size : Nat} {v : Value} {n : Nat} {xs : List Value} (h : w.ownsRow base e size v n xs) {blk : Nat} (hne : v.ownBlock ≠ some blk) (i : Nat) (u : Value) : (w.setCell ⟨blk, i, none⟩ u).ownsRow base e size v n xs := by
  obtain ⟨h1, h2 | ⟨g, cap, cur, e1, e2, hcur, r⟩⟩ := h
  · exact ⟨h1, .inl h2⟩
  · refine ⟨h1, .inr ⟨g, cap, cur, e1, e2, ?_, r⟩⟩
    rw [Below.heap_setCell _ _ _ _ (fun q => hne (by rw [e1, q]; rfl))]
    exact hcur
theorem pv_take (ps : List PV) (n : Nat) (h : n ≤ ps.length) : (ps.flatMap encPV).take (n * 2) = (ps.take n).flatMap encPV := by
  have e : ps.flatMap encPV = (ps.take n).flatMap encPV ++ (ps.drop n).flatMap encPV := by rw [← List.flatMap_append, List.take_append_drop]
  rw [e]
  refine List.take_left' ?_
  rw [flat_len encPV_len, List.length_take, Nat.min_eq_left h]
theorem pv_drop (ps : List PV) (n : Nat) (h : n ≤ ps.length) : (ps.flatMap encPV).drop (n * 2) = (ps.drop n).flatMap encPV := by
  have e : ps.flatMap encPV = (ps.take n).flatMap encPV ++ (ps.drop n).flatMap encPV := by rw [← List.flatMap_append, List.take_append_drop]
  rw [e]
  refine List.drop_left' ?_
  rw [flat_len encPV_len, List.length_take, Nat.min_eq_left h]

theorem chainGraphAt_any {w : World} {cb B : Nat} {vb v : Value} {base : List Tr} {ps : List PV} {ys : List Ly} (h : ChainAt w cb B vb v base ps ys) (n : Nat) (hn : n ≤ ps.length)
    (hb : base.length ≤ 200) (hy : ∀ y ∈ ys, lyErr y = none) (hm : ys.length ≤ 100) :
    Calls Tryd.prog 12 #[.pointer (some ⟨cb, 0, none⟩), .int .i64 n] w fun e w' => ∃ p c, e = .returned (.tuple #[.slice p (graphL base (ys.take n)).length c, .nilIface]) ∧ Ext w w' := by
  have hg := fun W (hW : Ext w W) => chainGraph_any (h.ext hW) n hn hb hy hm
  generalize graphL base (ys.take n) = G at hg ⊢
  have hcell := h.cells
  obtain ⟨av, cv, rfl⟩ := sliceOf_own h.own
  obtain ⟨pb, cbb, rfl, _⟩ := h.base
  have HG := Lib.hid hg
  clear hg h hb hy
  have A := cells_at hcell
  have h1 : ¬ ((n : Int) > (ps.length : Int)) := by omega
  have h2 : ¬ ((n : Int) < 0) := by omega
  have hx0 := Ext.refl w
  go_enter Tryd.func12, Tryd.ntmps12
  go_wp2_with (go_at_call 25; refine (HG.out _ hx0).mono ?_; rintro e w1 ⟨p, c, rfl, _, hx1⟩)
  go_ret2
  exact ⟨_, _, rfl, hx1⟩

/-- one that has layers: the last of them, taken -/
theorem chainPop_any {w : World} {cb B : Nat} {vb v : Value} {base : List Tr} {ps : List PV} {ys : List Ly} (h : ChainAt w cb B vb v base ps ys) (n : Nat) (hn : ps.length = n + 1) (hB : B ≤ cb) (hBw : B ≤ w.heap.size) :
    Calls Tryd.prog 15 #[.pointer (some ⟨cb, 0, none⟩)] w fun e w' => ∃ p c q d, e = .returned (.tuple #[.agg #[.slice p (ys.getD n ⟨[], []⟩).add.length c, .slice q (ys.getD n ⟨[], []⟩).take.length d], .nilIface]) ∧
      (∃ v', ChainAt w' cb B vb v' base (ps.take n) (ys.take n)) ∧ KeptT w w' ∧ Below B w w' := by
  have hcell := h.cells
  have hlen := h.len
  have hny : n < ys.length := by omega
  have hnp : n < ps.length := by omega
  have hgd : ys.getD n ⟨[], []⟩ = ys[n] := by simp [List.getD, hny]
  rw [hgd]
  have hpv := h.each n hnp hny
  obtain ⟨av, cv, rfl⟩ := sliceOf_own h.own
  obtain ⟨pb, cbb, hvb, _⟩ := h.base
  subst hvb
  obtain ⟨_, cap', hval, hcap, hmax, hcells⟩ : Reads encPV w (.slice av ps.length cv) ps := Reads.of_owns h.own
  cases hval
  unfold maxLen at hmax
  obtain ⟨b, off, rfl, hc⟩ := hcells (fun h0 => by rw [h0] at hnp; exact absurd hnp (Nat.not_lt_zero _))
  have c0 : w.cell? ⟨b, off + n * 2, none⟩ = some ps[n].1 := hc _ _ ((flat_get encPV_len ps n 0 hnp (by omega)).trans rfl)
  have c1 : w.cell? ⟨b, off + n * 2 + 1, none⟩ = some ps[n].2 := by rw [Nat.add_assoc]; exact hc _ _ ((flat_get encPV_len ps n 1 hnp (by omega)).trans rfl)
  obtain ⟨⟨pa, ca, ea, _⟩, ⟨pt, ct, et, _⟩⟩ := hpv
  rw [ea] at c0
  rw [et] at c1
  have H := Lib.hid (And.intro h hlen)
  clear h hlen hcells hc ea et hgd
  generalize ys[n] = y at c0 c1 ⊢
  have hx0 := (Ext.refl w).alloc (.cells #[.slice none 0 0, .slice none 0 0] 43)
  have hb0 := alloc_heap_new w (.cells #[.slice none 0 0, .slice none 0 0] 43)
  have hwr : IntKind.i64.wrap ((ps.length : Int) - 1) = (n : Int) := by rw [show (ps.length : Int) - 1 = (n : Int) by omega]; exact IntWalk.i64_in _ (by omega)
  have h0 : ¬ ((n : Int) < 0) := by omega
  have h1 : (n : Int) < (ps.length : Int) := by omega
  have h2 : (n : Int) ≤ (cv : Int) := by omega
  go_enter Tryd.func15, Tryd.ntmps15
  go_upto_region 1 with fail
  generalize hwb : World.alloc w _ = wb at hx0 hb0 ⊢
  clear hwb
  have A := cells_at (heap_ext hx0 hcell)
  have d0 := hx0.cell c0
  have d1 := hx0.cell c1
  clear c0 c1
  go_upto_region 5 with fail
  have hxc := hx0.alloc (.cells #[.slice pa y.add.length ca, .slice pt y.take.length ct] 43)
  have hx1 := (Ext.refl wb).alloc (.cells #[.slice pa y.add.length ca, .slice pt y.take.length ct] 43)
  have hb5 := alloc_heap_new wb (.cells #[.slice pa y.add.length ca, .slice pt y.take.length ct] 43)
  generalize hwc : World.alloc wb _ = wc at hxc hx1 hb5 ⊢
  clear hwc d0 d1 A
  have hcc := heap_ext hxc hcell
  have hb2 := heap_ext hx1 hb0
  have hne5 : wb.heap.size ≠ cb := fun e => by
    have := (Array.getElem?_eq_some_iff.1 (heap_ext hx0 hcell)).1; omega
  have hne2 : w.heap.size ≠ cb := fun e => by
    have := (Array.getElem?_eq_some_iff.1 hcell).1; omega
  have A := cells_at hcc
  have fz : ∀ i, wc.frozen? ⟨cb, i, none⟩ = false := fun i => by simp [World.frozen?, hcc]
  clear hx0 hb0 hx1
  go_upto_region 6 with fail
  have hF : ∀ W5, W5 = wc.setCell ⟨cb, 1, none⟩ (.slice (some ⟨b, off, none⟩) n cv) → ChainAt W5 cb B (.slice pb base.length cbb) (.slice (some ⟨b, off, none⟩) n cv) base (ps.take n) (ys.take n) ∧ KeptT w W5 ∧ Below B w W5 ∧
      W5.heap[wb.heap.size]? = some (.cells #[.slice pa y.add.length ca, .slice pt y.take.length ct] 43) ∧ W5.heap[w.heap.size]? = some (.cells #[.slice none 0 0, .slice none 0 0] 43) := by
    rintro W5 rfl
    have hk := (KeptT.of_ext hxc).trans (KeptT.setCell hcc 1 (.slice (some ⟨b, off, none⟩) n cv))
    refine ⟨⟨heap_setCell_same wc cb 1 _ _ _ hcc, hk.set H.out.1.base, ?_, ?_, fun j a c => ?_⟩, hk, Below.setCell (Below.mono hxc hBw) hB _, ?_, ?_⟩
    · have hl : (ps.take n).length = n := by rw [List.length_take]; omega
      rw [hl, ← pv_take ps n (by omega)]
      exact own_cut (own_set_other (own_ext H.out.1.own hxc) hcc (by decide) 1 _) (by omega) (by simp)
    · rw [List.length_take, List.length_take, H.out.2]
    · have hj : j < ps.length := by rw [List.length_take] at a; omega
      have hj' : j < ys.length := by have := H.out.2; omega
      rw [List.getElem_take, List.getElem_take]
      obtain ⟨g1, g2⟩ := H.out.1.each j hj hj'
      exact ⟨hk.set g1, hk.set g2⟩
    · rw [Below.heap_setCell _ _ _ _ hne5]; exact hb5
    · rw [Below.heap_setCell _ _ _ _ hne2]; exact hb2
  generalize wc.setCell ⟨cb, 1, none⟩ (.slice (some ⟨b, off, none⟩) n cv) = W5 at hF ⊢
  obtain ⟨f1, f2, f3, f4, f5⟩ := hF _ rfl
  have hnb : (Value.slice (some ⟨b, off, none⟩) n cv).ownBlock ≠ some w.heap.size := fun e => by
    have h1 : (Value.slice (some ⟨b, off, none⟩) ps.length cv).ownBlock = some w.heap.size := e
    exact absurd (H.out.1.own.lt _ h1).2 (Nat.lt_irrefl _)
  have A5 := cells_at f4
  have e0 := cells_at f5 0
  have e1 := cells_at f5 1
  have fz2 : ∀ i, W5.frozen? ⟨w.heap.size, i, none⟩ = false := fun i => by simp [World.frozen?, f5]
  obtain ⟨w6, hw6, hc6, hb6, hk6⟩ := set_two f5 (.slice pa y.add.length ca) (.slice pt y.take.length ct) hBw f3
  have hF6 : ChainAt w6 cb B (.slice pb base.length cbb) (.slice (some ⟨b, off, none⟩) n cv) base (ps.take n) (ys.take n) ∧ KeptT w w6 := by
    refine ⟨⟨?_, ?_, ?_, f1.len, fun j a c => ?_⟩, fun g c e f hh h1 h2 => ?_⟩
    · rw [hw6, Below.heap_setCell _ _ _ _ (Ne.symm hne2), Below.heap_setCell _ _ _ _ (Ne.symm hne2)]; exact f1.cells
    · obtain ⟨p, c, q, o⟩ := f1.base
      exact ⟨p, c, q, hk6 (by decide) o⟩
    · rw [hw6]; exact own_set_ne (own_set_ne f1.own hnb 0 _) hnb 1 _
    · obtain ⟨⟨p, c', q, o⟩, ⟨p', c'', q', o'⟩⟩ := f1.each j a c
      exact ⟨⟨p, c', q, hk6 (by decide) o⟩, ⟨p', c'', q', hk6 (by decide) o'⟩⟩
    · have hg : g ≠ w.heap.size := fun q => by
        have := (Array.getElem?_eq_some_iff.1 hh).1; omega
      rw [hw6, Below.heap_setCell _ _ _ _ hg, Below.heap_setCell _ _ _ _ hg]
      exact f2 g c e f hh h1 h2
  have HF := Lib.hid (And.intro hF6 hb6)
  clear hF6 hb6 hk6 f1 f2 f3 f4 f5 hF hnb hcc hb2 hb5 hxc A fz
  go_wp2
  rw [← hw6]
  have A := cells_at hc6
  clear hw6 A5 fz2 e0 e1
  (try simp only [Exit.inBlock, Exit.then])
  refine bodyPost_ret (v := .tuple #[.agg #[.slice pa y.add.length ca, .slice pt y.take.length ct], .nilIface]) (results_cell_tmp rfl rfl ?_ rfl) rfl ?_
  · go_simp
  · exact ⟨⟨_, _, _, _, rfl⟩, ⟨_, HF.out.1.1⟩, HF.out.1.2, HF.out.2⟩
end Go.Proofs.YtmobdmljbbckiaaDoor
