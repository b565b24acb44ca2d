/- (*Chain).Squash. -/
import Derived.Test.YtmobdmljbbckiaaDoorConcatLy
namespace Go.Proofs.YtmobdmljbbckiaaDoor
open Go.RowKit
set_option maxHeartbeats 3200000
set_option maxRecDepth 100000

/-- where a part of a slice begins, kept whole in a walk -/
def cutA (a : Option Addr) (l m s : Nat) : Option Addr := if m = l then a else a.map (·.add (l * s))
@[go_sem high] theorem run_slice_lh' {P : Program} (w : World) (t : TypeId) (a : Option Addr) (len cap : Nat) (ht : P.underlying t = some (.slice (P.elem t))) (kl kh : IntKind) (l h : Int) (h0 : 0 ≤ l) (h1 : l ≤ h) (h2 : h ≤ cap) :
    (Instr.slice t (.slice a len cap) (some (.int kl l)) (some (.int kh h)) none).run P w =
      ((sizeOf (P.elem t)).run P w).andThen fun s w => .ok (.slice (cutA a l.toNat cap s) (h.toNat - l.toNat) (cap - l.toNat)) w := by
  rw [run_slice_lh w t a len cap ht kl kh l h h0 h1 h2]; rfl
@[go_sem high] theorem run_slice_l' {P : Program} (w : World) (t : TypeId) (a : Option Addr) (len cap : Nat) (ht : P.underlying t = some (.slice (P.elem t))) (kl : IntKind) (l : Int) (h0 : 0 ≤ l) (h1 : l ≤ len) :
    (Instr.slice t (.slice a len cap) (some (.int kl l)) none none).run P w =
      ((sizeOf (P.elem t)).run P w).andThen fun s w => .ok (.slice (cutA a l.toNat cap s) (len - l.toNat) (cap - l.toNat)) w := by
  rw [run_slice_l w t a len cap ht kl l h0 h1]; rfl

theorem chainSquash_bad {w : World} {cb B : Nat} {vb v : Value} {base : List Tr} {ps : List PV} {ys : List Ly} (h : ChainAt w cb B vb v base ps ys) (a b : Int) (hn : ps.length ≤ 100000) (hab : a < 1 ∨ (ps.length : Int) < b ∨ b < a) :
    Calls Tryd.prog 14 #[.pointer (some ⟨cb, 0, none⟩), .int .i64 a, .int .i64 b] w fun e w' => e = .returned (eV 1) ∧ Ext w w' := by
  have hcell := h.cells
  obtain ⟨av, cv, rfl⟩ := sliceOf_own h.own
  obtain ⟨pb, cbb, rfl, _⟩ := h.base
  clear h
  have A := cells_at hcell
  by_cases h1 : a < 1
  · go_enter Tryd.func14, Tryd.ntmps14
    go_wp2
    go_ret
    exact ⟨rfl, Ext.refl _⟩
  · by_cases h2 : (ps.length : Int) < b
    · go_enter Tryd.func14, Tryd.ntmps14
      go_wp2
      go_ret
      exact ⟨rfl, Ext.refl _⟩
    · have h3 : b < a := by omega
      go_enter Tryd.func14, Tryd.ntmps14
      go_wp2
      go_ret
      exact ⟨rfl, Ext.refl _⟩

theorem ReadsRows.ext {w w' : World} {v : Value} {ls : List (List PV)} (h : ReadsRows w v ls) (e : Ext w w') : ReadsRows w' v ls := by
  obtain ⟨vs, h1, h2, h3⟩ := h
  exact ⟨vs, h1, h2.ext e, fun j h h' => (h3 j h h').ext e⟩
theorem reads_pv (w : World) (p : PV) : Reads encPV (w.alloc (.cells #[p.1, p.2] 43)) (.slice (some ⟨w.heap.size, 0, none⟩) 1 1) [p] := by
  refine ⟨_, 1, rfl, Nat.le_refl _, by decide, fun _ => ⟨_, 0, rfl, fun i u hi => ?_⟩⟩
  have := cells_new w #[p.1, p.2] 43 w.heap.size rfl i u (by simpa [encPV] using hi)
  rw [Go.WideShapes.add_plain] at this
  exact this
theorem rows_new (w : World) (vs : List Value) (ls : List (List PV)) (hl : vs.length = ls.length) (hn : vs.length ≤ 1000) (h : ∀ j (h : j < vs.length) (h' : j < ls.length), Reads encPV w vs[j] ls[j]) :
    ReadsRows (w.alloc (.cells vs.toArray 62)) (.slice (some ⟨w.heap.size, 0, none⟩) vs.length vs.length) ls := by
  refine ⟨vs, hl, ⟨_, vs.length, rfl, Nat.le_refl _, by unfold maxLen; omega, fun _ => ⟨_, 0, rfl, fun i u hi => ?_⟩⟩, fun j h1 h2 => (h j h1 h2).ext ((Ext.refl w).alloc _)⟩
  have := cells_new w vs.toArray 62 w.heap.size rfl i u (by simpa [List.flatMap_singleton'] using hi)
  rw [Go.WideShapes.add_plain] at this
  exact this
theorem each3 {P : PV → Ly → Prop} {ps : List PV} {ys : List Ly} (hl : ps.length = ys.length) (he : ∀ j (h : j < ps.length) (h' : j < ys.length), P ps[j] ys[j]) {p : PV} {z : Ly} (hp : P p z) (f t : Nat) :
    ∀ j (h : j < (ps.take f ++ [p] ++ ps.drop t).length) (h' : j < (ys.take f ++ [z] ++ ys.drop t).length), P (ps.take f ++ [p] ++ ps.drop t)[j] (ys.take f ++ [z] ++ ys.drop t)[j] := by
  have hz : ∀ x ∈ (ps.take f ++ [p] ++ ps.drop t).zip (ys.take f ++ [z] ++ ys.drop t), P x.1 x.2 := by
    rw [List.zip_append (by simp [hl]), List.zip_append (by simp [hl])]
    intro x hx
    rcases List.mem_append.1 hx with hx | hx
    · rcases List.mem_append.1 hx with hx | hx
      · obtain ⟨k, hk, rfl⟩ := List.getElem_of_mem hx
        simp only [List.getElem_zip, List.getElem_take]
        exact he _ _ _
      · simp at hx; subst hx; exact hp
    · obtain ⟨k, hk, rfl⟩ := List.getElem_of_mem hx
      simp only [List.getElem_zip, List.getElem_drop]
      exact he _ _ _
  intro j h h'
  generalize ps.take f ++ [p] ++ ps.drop t = L at hz h
  generalize ys.take f ++ [z] ++ ys.drop t = M at hz h'
  have e : (L.zip M)[j]'(by rw [List.length_zip]; omega) = (L[j], M[j]) := List.getElem_zip
  have := hz (L[j], M[j]) (by rw [← e]; exact List.getElem_mem _)
  exact this
theorem PvOwn.one {B : Nat} {w : World} {p : PV} {y : Ly} (h : PvOwn B w p y) : ∀ u ∈ encPV p, u.oneCell' = true := by
  obtain ⟨⟨a, c, e1, _⟩, ⟨a', c', e2, _⟩⟩ := h
  intro u hu
  simp [encPV] at hu
  rcases hu with rfl | rfl
  · rw [e1]; rfl
  · rw [e2]; rfl
/-- what the operations of Squash's last region leave -/
def sqR (B cb : Nat) (l1 l2 : List PV) (z : Ly) (i : Nat) (v : Value) (W : World) : Prop :=
  match i with
  | 9 => TwoVal B W v z.add z.take
  | 10 => ∃ (g : Nat) (p : PV), v = .slice (some ⟨g, 0, none⟩) 1 1 ∧ Reads encPV W v [p] ∧ PvOwn B W p z
  | 17 => ∃ (g : Nat) (p : PV), v = .slice (some ⟨g, 0, none⟩) 3 3 ∧ ReadsRows W v [l1, [p], l2] ∧ PvOwn B W p z
  | 18 => ∃ (a : Option Addr) (n c : Nat) (p : PV), v = .slice a n c ∧ W.ownsRow B 43 2 (.slice a n c) (l1 ++ [p] ++ l2).length ((l1 ++ [p] ++ l2).flatMap encPV) ∧ PvOwn B W p z
  | 19 => v = .pointer (some ⟨cb, 0, none⟩)
  | 20 => v = .pointer (some ⟨cb, 1, none⟩)
  | _ => True
theorem sqR_ext (B cb : Nat) (l1 l2 : List PV) (z : Ly) (i : Nat) (v : Value) (w w' : World) (h : sqR B cb l1 l2 z i v w) (hx : Ext w w') : sqR B cb l1 l2 z i v w' := by
  unfold sqR at *
  split at h
  · exact TwoVal.ext h hx
  · obtain ⟨g, p, h1, h2, h3⟩ := h; exact ⟨g, p, h1, h2.ext hx, h3.ext hx⟩
  · obtain ⟨g, p, h1, h2, h3⟩ := h; exact ⟨g, p, h1, h2.ext hx, h3.ext hx⟩
  · obtain ⟨a, n, c, p, h1, h2, h3⟩ := h; exact ⟨a, n, c, p, h1, own_ext h2 hx, h3.ext hx⟩
  · exact h
  · exact h
  · trivial
theorem reads_take {w : World} {b off cv : Nat} {ps : List PV} (hc : ∀ t u, (ps.flatMap encPV)[t]? = some u → w.cell? ⟨b, off + t, none⟩ = some u) (f : Nat) (hf : f ≤ ps.length) (hcv : ps.length ≤ cv) (hm : cv ≤ maxLen) : Reads encPV w (.slice (some ⟨b, off, none⟩) f cv) (ps.take f) := by
  have hl : (ps.take f).length = f := by rw [List.length_take]; omega
  refine ⟨some ⟨b, off, none⟩, cv, by rw [hl], by rw [hl]; omega, hm, fun _ => ⟨b, off, rfl, fun i u hi => hc i u ?_⟩⟩
  rw [← pv_take ps f hf, List.getElem?_take] at hi
  split at hi
  · exact hi
  · cases hi
theorem reads_drop {w : World} {b off cv : Nat} {ps : List PV} (hc : ∀ t u, (ps.flatMap encPV)[t]? = some u → w.cell? ⟨b, off + t, none⟩ = some u) (f : Nat) (hf : f ≤ ps.length) (hcv : ps.length ≤ cv) (hm : cv ≤ maxLen) : Reads encPV w (.slice (cutA (some ⟨b, off, none⟩) f cv 2) (ps.length - f) (cv - f)) (ps.drop f) := by
  have hl : (ps.drop f).length = ps.length - f := by rw [List.length_drop]
  refine ⟨_, cv - f, by rw [hl], by rw [hl]; omega, Nat.le_trans (Nat.sub_le _ _) hm, fun hne => ⟨b, off + f * 2, ?_, fun i u hi => ?_⟩⟩
  · have : f < ps.length := by
      rcases Nat.lt_or_ge f ps.length with h | h
      · exact h
      · exact absurd (List.drop_eq_nil_of_le h) hne
    unfold cutA; rw [if_neg (by omega)]; show some ((⟨b, off, none⟩ : Addr).add (f * 2)) = _; rw [Go.WideShapes.add_plain]
  · rw [← pv_drop ps f hf, List.getElem?_drop] at hi
    have := hc _ _ hi
    rw [← Nat.add_assoc] at this
    exact this

theorem chainSquash_ok {w : World} {cb B : Nat} {vb v : Value} {base : List Tr} {ps : List PV} {ys : List Ly} (h : ChainAt w cb B vb v base ps ys) (f t : Nat) (hft : f < t) (ht : t ≤ ps.length) (hn : ps.length ≤ 1000) (hB : B ≤ cb) (hBw : B ≤ w.heap.size)
    (Z : Nat → Ly) (hZ0 : Z (f + 1) = ys.getD f ⟨[], []⟩) (hZ : ∀ j, f + 1 ≤ j → j < t → thenErr (Z j) (ys.getD j ⟨[], []⟩) = none ∧ lyBoth (Z j) (ys.getD j ⟨[], []⟩) = Z (j + 1)) (hZt : (Z t).add.length ≤ 100000 ∧ (Z t).take.length ≤ 100000) :
    Calls Tryd.prog 14 #[.pointer (some ⟨cb, 0, none⟩), .int .i64 ((f : Int) + 1), .int .i64 t] w fun e w' => e = .returned .nilIface ∧ ∃ v' p, ChainAt w' cb B vb v' base (ps.take f ++ [p] ++ ps.drop t) (ys.take f ++ [Z t] ++ ys.drop t) ∧ KeptT w w' ∧ Below B w w' := by
  have hcell := h.cells
  have hlen := h.len
  have hfp : f < ps.length := by omega
  have hfy : f < ys.length := by omega
  obtain ⟨av, cv, rfl⟩ := sliceOf_own h.own
  obtain ⟨pb, cbb, hvb, _⟩ := h.base
  subst hvb
  obtain ⟨_, cap', hval, hcap, hmax, hcells⟩ : Reads encPV w (.slice av ps.length cv) ps := Reads.of_owns h.own
  cases hval
  unfold maxLen at hmax
  obtain ⟨b, off, rfl, hc⟩ := hcells (fun h0 => by rw [h0] at hfp; exact absurd hfp (Nat.not_lt_zero _))
  have c0 : w.cell? ⟨b, off + f * 2, none⟩ = some ps[f].1 := hc _ _ ((flat_get encPV_len ps f 0 hfp (by omega)).trans rfl)
  have c1 : w.cell? ⟨b, off + f * 2 + 1, none⟩ = some ps[f].2 := by rw [Nat.add_assoc]; exact hc _ _ ((flat_get encPV_len ps f 1 hfp (by omega)).trans rfl)
  obtain ⟨⟨pa, ca, ea, oa⟩, ⟨pt, ct, et, ot⟩⟩ := h.each f hfp hfy
  rw [ea] at c0 oa
  rw [et] at c1 ot
  rw [show ys.getD f ⟨[], []⟩ = ys[f] by simp [List.getD, hfy]] at hZ0
  rw [← hZ0] at c0 c1 oa ot
  have H := Lib.hid (And.intro h (And.intro hlen (And.intro hc (And.intro hZ hZt))))
  clear h hlen hcells hc ea et hZ0 hZ hZt
  have hwr : IntKind.i64.wrap ((f : Int) + 1 - 1) = (f : Int) := by rw [show (f : Int) + 1 - 1 = (f : Int) by omega]; exact IntWalk.i64_in _ (by omega)
  have g1 : ¬ ((f : Int) + 1 < 1) := by omega
  have g2 : ¬ ((ps.length : Int) < (t : Int)) := by omega
  have g3 : ¬ ((t : Int) < (f : Int) + 1) := by omega
  have g4 : (0 : Int) ≤ (f : Int) + 1 := by omega
  have g5 : (f : Int) + 1 ≤ (t : Int) := by omega
  have g6 : (t : Int) ≤ (cv : Int) := by omega
  have g7 : ((f : Int) + 1).toNat = f + 1 := by omega
  have A := cells_at hcell
  go_enter Tryd.func14, Tryd.ntmps14
  go_upto_region 4 with fail
  have hx0 := (Ext.refl w).alloc (.cells #[.slice pa (Z (f + 1)).add.length ca, .slice pt (Z (f + 1)).take.length ct] 43)
  have hb0 := alloc_heap_new w (.cells #[.slice pa (Z (f + 1)).add.length ca, .slice pt (Z (f + 1)).take.length ct] 43)
  generalize hwb : World.alloc w _ = wb at hx0 hb0 ⊢
  clear hwb A c0 c1
  have A := cells_at (heap_ext hx0 hcell)
  go_wp2
  clear A
  have HI := Lib.hid (show ∃ p c q d, wb.heap[w.heap.size]? = some (.cells #[.slice p (Z (f + 1 + 0)).add.length c, .slice q (Z (f + 1 + 0)).take.length d] 43) ∧ OwnSet B wb (.slice p (Z (f + 1 + 0)).add.length c) (Z (f + 1 + 0)).add ∧ OwnSet B wb (.slice q (Z (f + 1 + 0)).take.length d) (Z (f + 1 + 0)).take from
    ⟨pa, ca, pt, ct, hb0, oa.ext hx0, ot.ext hx0⟩)
  clear hb0 oa ot
  go_loopw [45] (fun iv wr => ∃ i : Nat, iv = .int .i64 i ∧ i ≤ t - (f + 1) ∧ Ext w wr ∧ Hid (∃ p c q d, wr.heap[w.heap.size]? = some (.cells #[.slice p (Z (f + 1 + i)).add.length c, .slice q (Z (f + 1 + i)).take.length d] 43) ∧ OwnSet B wr (.slice p (Z (f + 1 + i)).add.length c) (Z (f + 1 + i)).add ∧ OwnSet B wr (.slice q (Z (f + 1 + i)).take.length d) (Z (f + 1 + i)).take)) (fun iv _ => t - (f + 1) - (intOf iv).toNat)
  case atStart => exact ⟨0, rfl, Nat.zero_le _, hx0, HI⟩
  case round =>
    obtain ⟨i, rfl, hi, hxr, hI⟩ := hrel
    clear HI hx0
    obtain ⟨p, c, q, d, hb7, o1, o2⟩ := hI.out
    clear hI
    by_cases hlt : i < t - (f + 1)
    · have hjp : f + 1 + i < ps.length := by omega
      have hjy : f + 1 + i < ys.length := by have := H.out.2.1; omega
      have hcut : cutA (some ⟨b, off, none⟩) (f + 1) cv 2 = some ⟨b, off + (f + 1) * 2, none⟩ := by unfold cutA; rw [if_neg (by omega)]; rfl
      rw [hcut]
      have c0 : w.cell? ⟨b, off + (f + 1) * 2 + i * 2, none⟩ = some ps[f + 1 + i].1 := by
        rw [show off + (f + 1) * 2 + i * 2 = off + (f + 1 + i) * 2 by omega]
        exact H.out.2.2.1 _ _ ((flat_get encPV_len ps (f + 1 + i) 0 hjp (by omega)).trans rfl)
      have c1 : w.cell? ⟨b, off + (f + 1) * 2 + i * 2 + 1, none⟩ = some ps[f + 1 + i].2 := by
        rw [show off + (f + 1) * 2 + i * 2 + 1 = off + ((f + 1 + i) * 2 + 1) by omega]
        exact H.out.2.2.1 _ _ ((flat_get encPV_len ps (f + 1 + i) 1 hjp (by omega)).trans rfl)
      obtain ⟨⟨pa, ca, ea, oa⟩, ⟨pt, ct, et, ot⟩⟩ := H.out.1.each (f + 1 + i) hjp hjy
      rw [ea] at c0 oa
      rw [et] at c1 ot
      obtain ⟨z1, z2⟩ := H.out.2.2.2.1 (f + 1 + i) (by omega) (by omega)
      rw [show ys.getD (f + 1 + i) ⟨[], []⟩ = ys[f + 1 + i] by simp [List.getD, hjy]] at z1 z2
      have hthen := fun W (hW : Ext wr W) => then_ok _ _ _ _ (Z (f + 1 + i)) ys[f + 1 + i] W (o1.reads.ext hW) (o2.reads.ext hW) (oa.reads.ext (hxr.trans hW)) (ot.reads.ext (hxr.trans hW)) z1
      rw [z2] at hthen
      have d0 := hxr.cell c0
      have d1 := hxr.cell c1
      have HT := Lib.hid hthen
      clear hthen c0 c1 ea et oa ot z1 z2 hcut o1 o2
      generalize ys[f + 1 + i] = y at d0 d1 HT
      have e1 : f + 1 + (i + 1) = f + 1 + i + 1 := by omega
      rw [← e1] at HT
      obtain ⟨z', hz'⟩ : ∃ z', z' = Z (f + 1 + (i + 1)) := ⟨_, rfl⟩
      rw [← hz'] at HT
      have HZ := Lib.hid hz'
      clear hz' e1
      generalize Z (f + 1 + i) = zi at hb7 HT
      go_upto_region 7 with fail
      have hxa := hxr.alloc (.cells #[.slice pa y.add.length ca, .slice pt y.take.length ct] 43)
      have hw1 := (Ext.refl wr).alloc (.cells #[.slice pa y.add.length ca, .slice pt y.take.length ct] 43)
      have hb9 := alloc_heap_new wr (.cells #[.slice pa y.add.length ca, .slice pt y.take.length ct] 43)
      generalize hwa : World.alloc wr _ = wa at hxa hw1 hb9 ⊢
      clear hwa d0 d1
      have A7 := cells_at (heap_ext hw1 hb7)
      have A9 := cells_at hb9
      go_upto_region 8 with (go_at_call 27; refine (HT.out _ hw1).mono ?_; rintro e w1 ⟨u, v, rfl, ou, ov, hx1⟩; obtain ⟨pu, cu, rfl⟩ := ou.slice; obtain ⟨pv, cv', rfl⟩ := ov.slice)
      have hn1 := (Ext.refl w1).alloc (.cells #[.slice pu z'.add.length cu, .slice pv z'.take.length cv'] 43)
      have hb10 := alloc_heap_new w1 (.cells #[.slice pu z'.add.length cu, .slice pv z'.take.length cv'] 43)
      have hxb := (hxa.trans hx1).trans hn1
      have hb7' := heap_ext ((hw1.trans hx1).trans hn1) hb7
      have ou' := (ou.ext hn1).mono (Nat.le_trans hBw hxa.size)
      have ov' := (ov.ext hn1).mono (Nat.le_trans hBw hxa.size)
      generalize hwc : World.alloc w1 _ = wc at hn1 hb10 hxb hb7' ou' ov' ⊢
      clear hwc A7 A9 ou ov hn1 hx1 hw1 hxa hb9 hb7
      have A10 := cells_at hb10
      have q0 := cells_at hb7' 0
      have q1 := cells_at hb7' 1
      have fz : ∀ i, wc.frozen? ⟨w.heap.size, i, none⟩ = false := fun i => by simp [World.frozen?, hb7']
      obtain ⟨w6, hw6, hc6, hb6, hk6⟩ := set_two hb7' (.slice pu z'.add.length cu) (.slice pv z'.take.length cv') (Nat.le_refl _) hxb
      have HF := Lib.hid (And.intro hb6 (And.intro hc6 (And.intro (show OwnSet B w6 _ z'.add from hk6 (by decide) ou') (show OwnSet B w6 _ z'.take from hk6 (by decide) ov'))))
      clear hb6 hc6 hk6 ou' ov' hxb hb7' hb10
      go_wp2
      rw [← hw6]
      clear hw6 A10 q0 q1 fz
      go_roundw
      case rel => exact ⟨i + 1, vi (by omega), hlt, HF.out.1, Lib.hid ⟨pu, cu, pv, cv', by rw [← HZ.out]; exact HF.out.2.1, by rw [← HZ.out]; exact HF.out.2.2.1, by rw [← HZ.out]; exact HF.out.2.2.2⟩⟩
      case measure => simp [intOf]; omega
    · have hin : f + 1 + i = t := by omega
      rw [hin] at hb7 o1 o2
      have hcx := heap_ext hxr hcell
      have HQ := Lib.hid (And.intro hb7 (And.intro o1 o2))
      have r1 := reads_take (w := w) (cv := cv) H.out.2.2.1 f (by omega) hcap (by unfold maxLen; omega)
      have r2 := reads_drop (w := w) (cv := cv) H.out.2.2.1 t ht hcap (by unfold maxLen; omega)
      have hown := fun W (hW : Ext wr W) => chainOwn_any _ _ (Z t).add (Z t).take W (o1.reads.ext hW) (o2.reads.ext hW) H.out.2.2.2.2.1 H.out.2.2.2.2.2
      have HR := Lib.hid (And.intro r1 (And.intro r2 hown))
      clear r1 r2 hown o1 o2
      go_wp2
      have A := Later.cells hcx
      have A7 := Later.cells hb7
      have k1 : ¬ ((cv : Int) < (f : Int)) := by omega
      have k2 : (f : Int) ≤ (cv : Int) := by omega
      have k3 : (t : Int) ≤ (ps.length : Int) := by omega
      have k4 : (0 : Int) ≤ (f : Int) := by omega
      have k5 : (0 : Int) ≤ (t : Int) := by omega
      have k6 : ¬ cv = 0 := by omega
      have k7 : IntKind.i64.wrap (f : Int) = (f : Int) := IntWalk.i64_in _ (by omega)
      refine wp_region_treez (Ext wr) [0, 1, 2, 3, 4, 5, 6, 7, 8, 11, 12, 13, 14, 15, 16] ([9, 10, 17, 18, 19, 20].length + 1) 21 (by kernel_rfl) (by kernel_rfl) (fun _ _ h k => h.trans k) (Ext.refl wr) ?_
      simp only [List.filterMap_cons, List.filterMap_nil, List.getElem?_cons_succ, List.getElem?_cons_zero]
      repeat (first | ((with_reducible refine wpFr_yes ?hw ?_); (case hw => rfl); intro K hK; go_simp; (first | (refine hK _ ?_; clear hK K) | (apply Exists.intro; refine ⟨fun x => ?_, hK _ ?_⟩; (fail); clear hK K))) | ((with_reducible refine wpFr_not ?hw ?_); (case hw => rfl); intro K hK; go_simp; (refine hK _ ?_; clear hK K)))
      refine wpFr_nil ?_
      refine wpE_steps [9, 10, 17, 18, 19, 20] (fun i => match i with | 9 => [] | 10 => [9] | 17 => [10] | 18 => [17] | 19 => [] | 20 => [19] | _ => []) ?R rfl (by kernel_rfl) (fun _ _ h k => h.trans k) (Ext.refl wr) ?hR ?hstep ?hend
      case R => exact sqR B cb (ps.take f) (ps.drop t) (Z t)
      case hR => exact sqR_ext B cb (ps.take f) (ps.drop t) (Z t)
      case hstep =>
        simp only [stepsOk, List.getElem?_toArray, List.getElem?_cons_succ, List.getElem?_cons_zero]
        refine ⟨?s9, ?s10, ?s17, ?s18, ?s19, ?s20, trivial⟩
        case s9 =>
          intro f W hW hd
          simp only [putAll, dstOf, List.getElem?_toArray, List.getElem?_cons_succ, List.getElem?_cons_zero, Option.bind_some]
          refine opI_yes rfl ?_
          go_simp
          refine (HR.out.2.2 W hW).mono ?_
          rintro e w' ⟨p1, c1, p2, c2, rfl, u1, u2, hx⟩
          have hB9 : B ≤ W.heap.size := Nat.le_trans hBw (hxr.trans hW).size
          exact ⟨_, rfl, hx, ⟨_, _, rfl, ⟨p1, c1, rfl, u1.mono hB9⟩, ⟨p2, c2, rfl, u2.mono hB9⟩⟩⟩
        case s10 =>
          intro f W hW hd
          have h9 : TwoVal B W (f 9) (Z t).add (Z t).take := hd 9 (by simp)
          obtain ⟨p9, c9, q9, d9, e9, u1, u2⟩ := h9.out
          simp only [putAll, dstOf, List.getElem?_toArray, List.getElem?_cons_succ, List.getElem?_cons_zero, Option.bind_some]
          rw [e9]
          refine opI_yes rfl ?_
          go_simp
          exact ⟨(Ext.refl _).alloc _, ⟨W.heap.size, (.slice p9 (Z t).add.length c9, .slice q9 (Z t).take.length d9), rfl, reads_pv W (.slice p9 (Z t).add.length c9, .slice q9 (Z t).take.length d9), ⟨⟨p9, c9, rfl, u1.ext ((Ext.refl _).alloc _)⟩, ⟨q9, d9, rfl, u2.ext ((Ext.refl _).alloc _)⟩⟩⟩⟩
        case s17 =>
          intro f' W hW hd
          obtain ⟨g, p, e10, hr10, hp10⟩ : ∃ (g : Nat) (p : PV), f' 10 = .slice (some ⟨g, 0, none⟩) 1 1 ∧ Reads encPV W (f' 10) [p] ∧ PvOwn B W p (Z t) := hd 10 (by simp)
          rw [e10] at hr10
          have q1 := HR.out.1.ext (hxr.trans hW)
          have q2 := HR.out.2.1.ext (hxr.trans hW)
          simp only [putAll, dstOf, List.getElem?_toArray, List.getElem?_cons_succ, List.getElem?_cons_zero, Option.bind_some]
          rw [e10]
          refine opI_yes rfl ?_
          go_simp
          exact ⟨(Ext.refl _).alloc _, ⟨W.heap.size, p, rfl, rows_new W [_, _, _] [ps.take f, [p], ps.drop t] rfl (by simp) (fun j h h' => by
            match j, h with
            | 0, _ => exact q1
            | 1, _ => exact hr10
            | 2, _ => exact q2), hp10.ext ((Ext.refl _).alloc _)⟩⟩
        case s18 =>
          intro f' W hW hd
          obtain ⟨g, p, e17, hr17, hp17⟩ : ∃ (g : Nat) (p : PV), f' 17 = .slice (some ⟨g, 0, none⟩) 3 3 ∧ ReadsRows W (f' 17) [ps.take f, [p], ps.drop t] ∧ PvOwn B W p (Z t) := hd 17 (by simp)
          rw [e17] at hr17
          have hps : ∀ x ∈ ps, ∀ u ∈ encPV x, u.oneCell' = true := fun x hx => by
            obtain ⟨j, hj, rfl⟩ := List.getElem_of_mem hx
            exact (H.out.1.each j hj (by have := H.out.2.1; omega)).one
          have hone : ∀ l ∈ [ps.take f, [p], ps.drop t], ∀ u ∈ l.flatMap encPV, u.oneCell' = true := fun l hl u hu => by
            obtain ⟨x, hx, hv⟩ := List.mem_flatMap.1 hu
            simp only [List.mem_cons, List.not_mem_nil, or_false] at hl
            rcases hl with rfl | rfl | rfl
            · exact hps x (List.mem_of_mem_take hx) u hv
            · obtain rfl : x = p := by simpa using hx
              exact hp17.one u hv
            · exact hps x (List.mem_of_mem_drop hx) u hv
          have hfl : [ps.take f, [p], ps.drop t].flatten = ps.take f ++ [p] ++ ps.drop t := by simp
          have htot : totToP [ps.take f, [p], ps.drop t] [ps.take f, [p], ps.drop t].length ≤ 100000 := by simp [totToP]; omega
          simp only [putAll, dstOf, List.getElem?_toArray, List.getElem?_cons_succ, List.getElem?_cons_zero, Option.bind_some]
          rw [e17]
          refine opI_yes rfl ?_
          go_simp
          refine (concat_anyP _ _ W hr17 htot hone).mono ?_
          rintro e w' ⟨v', rfl, ho, hx⟩
          rw [hfl] at ho
          obtain ⟨a, c, rfl⟩ := sliceOf_own ho
          exact ⟨_, rfl, hx, ⟨a, _, c, p, rfl, own_mono ho (Nat.le_trans hBw (hxr.trans hW).size), hp17.ext hx⟩⟩
        case s19 =>
          intro f' W hW hd
          simp only [putAll, dstOf, List.getElem?_toArray, List.getElem?_cons_succ, List.getElem?_cons_zero, Option.bind_some]
          refine opI_yes rfl ?_
          go_simp
          exact ⟨Ext.refl _, rfl⟩
        case s20 =>
          intro f' W hW hd
          have h19 : f' 19 = .pointer (some ⟨cb, 0, none⟩) := hd 19 (by simp)
          simp only [putAll, dstOf, List.getElem?_toArray, List.getElem?_cons_succ, List.getElem?_cons_zero, Option.bind_some]
          rw [h19]
          refine opI_yes rfl ?_
          go_simp
          exact ⟨Ext.refl _, rfl⟩
      case hend =>
        intro f' W K hW hr hK
        obtain ⟨a, n, c, p, e18, ho, hp⟩ : ∃ (a : Option Addr) (n c : Nat) (p : PV), f' 18 = .slice a n c ∧ W.ownsRow B 43 2 (.slice a n c) (ps.take f ++ [p] ++ ps.drop t).length ((ps.take f ++ [p] ++ ps.drop t).flatMap encPV) ∧ PvOwn B W p (Z t) := hr 18 (by simp)
        have h20 : f' 20 = .pointer (some ⟨cb, 1, none⟩) := hr 20 (by simp)
        clear hr
        simp only [putAll, dstOf, List.getElem?_toArray, List.getElem?_cons_succ, List.getElem?_cons_zero, Option.bind_some]
        rw [e18, h20]
        generalize f' 9 = g9
        generalize f' 10 = g10
        generalize f' 17 = g17
        generalize f' 19 = g19
        clear e18 h20
        refine lastI_yes rfl ?_
        have hcW := heap_ext hW hcx
        have d1 : W.cell? ⟨cb, 1, none⟩ = some (.slice (some ⟨b, off, none⟩) ps.length cv) := cells_at hcW 1
        have fz : ∀ i, W.frozen? ⟨cb, i, none⟩ = false := fun i => by simp [World.frozen?, hcW]
        go_simp
        refine hK _ _ (fun u hu => ?_)
        clear hK K A A7
        have hF : ∀ W5, W5 = W.setCell ⟨cb, 1, none⟩ (.slice a n c) → ChainAt W5 cb B (.slice pb base.length cbb) (.slice a n c) base (ps.take f ++ [p] ++ ps.drop t) (ys.take f ++ [Z t] ++ ys.drop t) ∧ KeptT w W5 ∧ Below B w W5 := by
          rintro W5 rfl
          have hk2 := KeptT.setCell hcW 1 (.slice a n c)
          have hk3 := (KeptT.of_ext (hxr.trans hW)).trans hk2
          have hl := H.out.2.1
          refine ⟨⟨heap_setCell_same W cb 1 _ _ (.slice a n c) hcW, hk3.set H.out.1.base, own_set_other ho hcW (by decide) 1 _, by simp; omega, each3 (P := fun x y => PvOwn B (W.setCell ⟨cb, 1, none⟩ (.slice a n c)) x y) hl (fun j h1 h2 => ?_) ?_ f t⟩, hk3, Below.setCell (Below.mono (hxr.trans hW) hBw) hB _⟩
          · obtain ⟨v1, v2⟩ := H.out.1.each j h1 h2
            exact ⟨hk3.set v1, hk3.set v2⟩
          · exact ⟨hk2.set hp.1, hk2.set hp.2⟩
        generalize W.setCell ⟨cb, 1, none⟩ (.slice a n c) = W5 at hF hu ⊢
        obtain ⟨f1, f2, f3⟩ := hF _ rfl
        have HF := Lib.hid (And.intro (f1.ext hu) (And.intro (f2.trans (KeptT.of_ext hu)) (Below.ext f3 hu (Nat.le_trans hBw f3.size))))
        clear f1 f2 f3 hF hu d1 fz ho hp hcW hW
        go_wp2
        go_ret
        have hfin := HF.out.1
        simp only [List.append_assoc, List.singleton_append] at hfin
        exact ⟨rfl, ⟨_, p.1, p.2, hfin⟩, HF.out.2.1, HF.out.2.2⟩
end Go.Proofs.YtmobdmljbbckiaaDoor
