/- The chain: what lies where; own, New, Len. -/
import Derived.Test.YtmobdmljbbckiaaDoorLayerApply
namespace Go.Proofs.YtmobdmljbbckiaaDoor
open Go.RowKit
set_option maxHeartbeats 3200000
set_option maxRecDepth 100000

/-- what the operations of own leave -/
def ownR (B : Nat) (P U : List Tr) (i : Nat) (v : Value) (W : World) : Prop :=
  match i with
  | 2 => SetVal B W v P
  | 5 => SetVal B W v U
  | 6 => TwoVal B W v P U
  | _ => True
theorem ownR_ext (B : Nat) (P U : List Tr) (i : Nat) (v : Value) (w w' : World) (h : ownR B P U i v w) (hx : Ext w w') : ownR B P U i v w' := by
  unfold ownR at *
  split at h <;> first | exact SetVal.ext h hx | exact TwoVal.ext h hx | trivial
theorem clone_own (v : Value) (l : List Tr) (w : World) (hl : Reads encTr w v l) (hn : l.length ≤ 100000) :
    Calls Tryd.prog 23 #[v] w fun e w' => ∃ p c, e = .returned (.slice p l.length c) ∧ OwnSet w.heap.size w' (.slice p l.length c) l ∧ Ext w w' :=
  (clone_tr v l w hl hn).mono fun e w' ⟨v', h1, h2, h3⟩ => by
    obtain ⟨p, c, rfl⟩ := sliceOf_own h2
    exact ⟨p, c, h1, h2, h3⟩

theorem chainOwn_any (va vt : Value) (a t : List Tr) (w : World) (ha : Reads encTr w va a) (ht : Reads encTr w vt t) (h1 : a.length ≤ 100000) (h2 : t.length ≤ 100000) :
    Calls Tryd.prog 26 #[.agg #[va, vt]] w fun e w' => ∃ p c q d, e = .returned (.agg #[.slice p a.length c, .slice q t.length d]) ∧ OwnSet w.heap.size w' (.slice p a.length c) a ∧ OwnSet w.heap.size w' (.slice q t.length d) t ∧ Ext w w' := by
  have hc1 := fun W (hW : Ext w W) => clone_own va a W (ha.ext hW) h1
  have hc2 := fun W (hW : Ext w W) => clone_own vt t W (ht.ext hW) h2
  obtain ⟨aa, ca, rfl⟩ := ha.slice
  obtain ⟨at', ct, rfl⟩ := ht.slice
  have hx0 := ((Ext.refl w).alloc (.cells #[.slice aa a.length ca, .slice at' t.length ct] 43)).alloc (.cells #[.slice none 0 0, .slice none 0 0] 43)
  have k0 := heap_ext ((Ext.refl _).alloc (.cells #[.slice none 0 0, .slice none 0 0] 43)) (alloc_heap_new w (.cells #[.slice aa a.length ca, .slice at' t.length ct] 43))
  have k1 := alloc_heap_new (w.alloc (.cells #[.slice aa a.length ca, .slice at' t.length ct] 43)) (.cells #[.slice none 0 0, .slice none 0 0] 43)
  simp only [World.size_alloc] at k1
  obtain ⟨B, hB⟩ : ∃ B, B = w.heap.size := ⟨_, rfl⟩
  have HB := Lib.hid hB
  have HH := Lib.hid (And.intro hc1 hc2)
  clear hc1 hc2 ha ht h1 h2 hB
  go_enter Tryd.func26, Tryd.ntmps26
  go_upto_region 1 with fail
  generalize hwb : World.alloc (World.alloc w _) _ = wb at hx0 k0 k1 ⊢
  clear hwb
  have A := Later.cells k0
  have HX := Lib.hid (And.intro hx0 k1)
  clear hx0 k1
  refine wp_region_treez (Ext wb) [0, 1, 3, 4] ([2, 5, 6].length + 1) 7 (by kernel_rfl) (by kernel_rfl) (fun _ _ h k => h.trans k) (Ext.refl wb) ?_
  simp only [List.filterMap_cons, List.filterMap_nil, List.getElem?_cons_succ, List.getElem?_cons_zero]
  repeat (first | ((with_reducible refine wpFr_yes ?hw ?_); (case hw => rfl); intro K hK; go_simp; (first | (refine hK _ ?_; clear hK K) | (apply Exists.intro; refine ⟨fun x => ?_, hK _ ?_⟩; (fail); clear hK K))) | ((with_reducible refine wpFr_not ?hw ?_); (case hw => rfl); intro K hK; go_simp; (refine hK _ ?_; clear hK K)))
  refine wpFr_nil ?_
  refine wpE_steps [2, 5, 6] (fun i => match i with | 2 => [] | 5 => [] | 6 => [2, 5] | _ => []) ?R rfl (by kernel_rfl) (fun _ _ h k => h.trans k) (Ext.refl wb) ?hR ?hstep ?hend
  case R => exact ownR B a t
  case hR => exact ownR_ext B a t
  case hstep =>
    simp only [stepsOk, List.getElem?_toArray, List.getElem?_cons_succ, List.getElem?_cons_zero]
    refine ⟨?s2, ?s5, ?s6, trivial⟩
    case s2 =>
      intro f W hW hd
      have hwW := HX.out.1.trans hW
      simp only [putAll, dstOf, List.getElem?_toArray, List.getElem?_cons_succ, List.getElem?_cons_zero, Option.bind_some]
      refine opI_yes rfl ?_
      go_simp
      refine (HH.out.1 W hwW).mono ?_
      rintro e w' ⟨p, c, rfl, ho, hx⟩
      exact ⟨_, rfl, hx, ⟨p, c, rfl, ho.mono (by rw [HB.out]; exact hwW.size)⟩⟩
    case s5 =>
      intro f W hW hd
      have hwW := HX.out.1.trans hW
      simp only [putAll, dstOf, List.getElem?_toArray, List.getElem?_cons_succ, List.getElem?_cons_zero, Option.bind_some]
      refine opI_yes rfl ?_
      go_simp
      refine (HH.out.2 W hwW).mono ?_
      rintro e w' ⟨p, c, rfl, ho, hx⟩
      exact ⟨_, rfl, hx, ⟨p, c, rfl, ho.mono (by rw [HB.out]; exact hwW.size)⟩⟩
    case s6 =>
      intro f W hW hd
      have g2 : SetVal B W (f 2) a := hd 2 (by simp)
      have g5 : SetVal B W (f 5) t := hd 5 (by simp)
      obtain ⟨pa, ca, e2, o2⟩ := g2.out
      obtain ⟨pb, cb, e5, o5⟩ := g5.out
      simp only [putAll, dstOf, List.getElem?_toArray, List.getElem?_cons_succ, List.getElem?_cons_zero, Option.bind_some]
      rw [e2, e5]
      refine opI_yes rfl ?_
      go_simp
      exact ⟨Ext.refl _, ⟨_, _, rfl, ⟨pa, ca, rfl, o2⟩, ⟨pb, cb, rfl, o5⟩⟩⟩
  case hend =>
    intro f W K hW hr hK
    have g6 : TwoVal B W (f 6) a t := hr 6 (by simp)
    obtain ⟨pu, cu, pt, ct, e6, ou, ot⟩ := g6.out
    clear hr
    simp only [putAll, dstOf, List.getElem?_toArray, List.getElem?_cons_succ, List.getElem?_cons_zero, Option.bind_some]
    rw [e6]
    generalize f 2 = g2
    generalize f 5 = g5
    clear e6 g6
    refine lastI_yes rfl ?_
    have hbb := heap_ext hW HX.out.2
    have d0 := cells_at hbb 0
    have d1 := cells_at hbb 1
    have fz : ∀ i, W.frozen? ⟨w.heap.size + 1, i, none⟩ = false := fun i => by simp [World.frozen?, hbb]
    go_simp
    refine hK _ _ (fun z hz => ?_)
    clear hK K
    have hwW := HX.out.1.trans hW
    obtain ⟨w5, hw5, hc5, hb5, hk5⟩ := set_two hbb (.slice pu a.length cu) (.slice pt t.length ct) (Nat.le_succ _) hwW
    rw [← hw5] at hz
    have o1 := (show OwnSet B w5 _ a from hk5 (by decide) ou).ext hz
    have o2 := (show OwnSet B w5 _ t from hk5 (by decide) ot).ext hz
    have A5 := cells_at (heap_ext hz hc5)
    have HZ := Lib.hid (And.intro o1 (And.intro o2 (Ext.trans hb5 hz)))
    clear hw5 hc5 hb5 hk5 o1 o2 hz hbb d0 d1 fz ou ot hwW hW A
    go_wp2
    (try simp only [Exit.inBlock, Exit.then])
    refine bodyPost_ret (v := .agg #[.slice pu a.length cu, .slice pt t.length ct]) (results_cell rfl rfl ?_) rfl ?_
    · go_simp
    · exact ⟨_, _, _, _, rfl, by rw [← HB.out]; exact HZ.out.1, by rw [← HB.out]; exact HZ.out.2.1, HZ.out.2.2⟩

/-- a layer of the chain's own: its two values -/
abbrev PV := Value × Value
def encPV (p : PV) : List Value := [p.1, p.2]
theorem encPV_len : ∀ p : PV, (encPV p).length = 2 := fun _ => rfl
def PvOwn (B : Nat) (W : World) (p : PV) (y : Ly) : Prop := SetVal B W p.1 y.add ∧ SetVal B W p.2 y.take
theorem PvOwn.ext {B : Nat} {w w' : World} {p : PV} {y : Ly} (h : PvOwn B w p y) (hx : Ext w w') : PvOwn B w' p y := ⟨h.1.ext hx, h.2.ext hx⟩
/-- the chain at a block -/
structure ChainAt (W : World) (cb B : Nat) (vb v : Value) (base : List Tr) (ps : List PV) (ys : List Ly) : Prop where
  cells : W.heap[cb]? = some (.cells #[vb, v] 64)
  base : SetVal B W vb base
  own : W.ownsRow B 43 2 v ps.length (ps.flatMap encPV)
  len : ps.length = ys.length
  each : ∀ j (h : j < ps.length) (h' : j < ys.length), PvOwn B W ps[j] ys[j]
theorem ChainAt.ext {w w' : World} {cb B : Nat} {vb v : Value} {base : List Tr} {ps : List PV} {ys : List Ly} (h : ChainAt w cb B vb v base ps ys) (hx : Ext w w') : ChainAt w' cb B vb v base ps ys :=
  ⟨heap_ext hx h.cells, h.base.ext hx, own_ext h.own hx, h.len, fun j a b => (h.each j a b).ext hx⟩

theorem chainLen_any {w : World} {cb B : Nat} {vb v : Value} {base : List Tr} {ps : List PV} {ys : List Ly} (h : ChainAt w cb B vb v base ps ys) :
    Calls Tryd.prog 13 #[.pointer (some ⟨cb, 0, none⟩)] w fun e w' => e = .returned (.int .i64 ps.length) ∧ w' = w := by
  obtain ⟨a, c, rfl⟩ := sliceOf_own h.own
  obtain ⟨p, q, rfl, _⟩ := h.base
  have A := cells_at h.cells
  clear h
  go_enter Tryd.func13, Tryd.ntmps13
  go_wp2
  go_ret
  exact ⟨rfl, rfl⟩

theorem chainNew_nil (w : World) :
    Calls Tryd.prog 10 #[.slice none 0 0] w fun e w' => ∃ cb vb, e = .returned (.tuple #[.pointer (some ⟨cb, 0, none⟩), .nilIface]) ∧ w.heap.size ≤ cb ∧ ChainAt w' cb w.heap.size vb (.slice none 0 0) [] [] [] ∧ Ext w w' := by
  have hright := fun W (_ : Ext w W) => right_one (.slice none 0 0) [] W (OwnSet.nil W.heap.size W).reads none (show setErr [] = none by decide +kernel)
  have hcl : ∀ W, Calls Tryd.prog 23 #[.slice none 0 0] W fun e w' => ∃ p c, e = .returned (.slice p 0 c) ∧ OwnSet W.heap.size w' (.slice p 0 c) [] ∧ Ext W w' := fun W => clone_own (.slice none 0 0) [] W (OwnSet.nil W.heap.size W).reads (by decide)
  dsimp only [errV] at hright
  have HH := Lib.hid (And.intro hright hcl)
  clear hright hcl
  have hx0 := Ext.refl w
  go_enter Tryd.func10, Tryd.ntmps10
  go_wp2_with (first | (go_at_call 17; refine (HH.out.1 _ hx0).mono ?_; rintro e w1 ⟨rfl, hx1⟩) | (go_at_call 23; refine (HH.out.2 _).mono ?_; rintro e w2 ⟨p, c, rfl, ho, hx2⟩))
  go_ret2
  refine ⟨w2.heap.size, .slice p 0 c, rfl, (hx1.trans hx2).size, ⟨alloc_heap_new _ _, ⟨p, c, rfl, (ho.ext ((Ext.refl w2).alloc _)).mono hx1.size⟩, World.ownsRow_nil _ _ _ _, rfl, fun j h => absurd h (Nat.not_lt_zero _)⟩, (hx1.trans hx2).alloc _⟩
end Go.Proofs.YtmobdmljbbckiaaDoor
