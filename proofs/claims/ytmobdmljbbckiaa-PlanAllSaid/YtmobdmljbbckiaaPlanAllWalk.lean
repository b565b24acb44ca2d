/- The law PlanAll: its walk. -/
import Derived.Test.YtmobdmljbbckiaaPlanOrder
import Derived.Test.YtmobdmljbbckiaaMany
import Derived.Test.YtmobdmljbbckiaaPlanOrderOk
import Derived.Test.YtmobdmljbbckiaaPlanBack
import Derived.Test.YtmobdmljbbckiaaSameQuery
import Derived.Test.YtmobdmljbbckiaaArgsQu
import Derived.Test.YtmobdmljbbckiaaTexts
import Derived.Test.YtmobdmljbbckiaaRegionAny
namespace Go.Proofs.Ytmobdmljbbckiaa
open Go.RowKit
set_option maxHeartbeats 6400000
set_option maxRecDepth 100000

def zeroT : Tm := ⟨0, ⟨#[]⟩, ⟨#[]⟩⟩
def patX : Pat := ⟨⟨⟨#[120]⟩, zeroT⟩, ⟨⟨#[121]⟩, zeroT⟩, ⟨⟨#[122]⟩, zeroT⟩⟩
def patS : Pat := ⟨⟨⟨#[]⟩, ⟨1, ⟨#[115]⟩, noText⟩⟩, ⟨⟨#[121]⟩, zeroT⟩, ⟨⟨#[122]⟩, zeroT⟩⟩
def quOne : Qu := ⟨[⟨#[120]⟩], [patX, patS], ⟨#[]⟩, false, false, -1⟩
theorem quOne_ask : askErr quOne = none := by decide +kernel
theorem many2_ok : setErr (manyL 2) = none := by decide +kernel
theorem quOne_order : planOrder [patX, patS] (manyL 2) = [1, 0] := by decide +kernel

abbrev cellsXS : Array Value := #[.string ⟨#[120]⟩, .int .i64 0, .string ⟨#[]⟩, .string ⟨#[]⟩, .string ⟨#[121]⟩, .int .i64 0, .string ⟨#[]⟩, .string ⟨#[]⟩, .string ⟨#[122]⟩, .int .i64 0, .string ⟨#[]⟩, .string ⟨#[]⟩, .string ⟨#[]⟩, .int .i64 1, .string ⟨#[115]⟩, .string noText, .string ⟨#[121]⟩, .int .i64 0, .string ⟨#[]⟩, .string ⟨#[]⟩, .string ⟨#[122]⟩, .int .i64 0, .string ⟨#[]⟩, .string ⟨#[]⟩]
abbrev cellsPX : Array Value := #[.string ⟨#[120]⟩, .int .i64 0, .string ⟨#[]⟩, .string ⟨#[]⟩, .string ⟨#[121]⟩, .int .i64 0, .string ⟨#[]⟩, .string ⟨#[]⟩, .string ⟨#[122]⟩, .int .i64 0, .string ⟨#[]⟩, .string ⟨#[]⟩]
def allR (i : Nat) (v : Value) (W : World) : Prop :=
  match i with
  | 0 => Reads encTr W v (manyL 2)
  | 2 => ∃ p c, v = .tuple #[.slice p 2 c, .nilIface] ∧ Reads encI W (.slice p 2 c) [1, 0]
  | 3 => ∃ p c, v = .tuple #[.slice p 2 c, .nilIface] ∧ Reads encI W (.slice p 2 c) [1, 0]
  | 4 => ∃ p c, v = .slice p 2 c ∧ Reads encI W (.slice p 2 c) [1, 0]
  | 5 => v = .nilIface
  | 6 => ∃ p c, v = .slice p 2 c ∧ Reads encI W (.slice p 2 c) [1, 0]
  | _ => True
theorem allR_ext (i : Nat) (v : Value) (w w' : World) (h : allR i v w) (hx : Ext w w') : allR i v w' := by
  unfold allR at *
  split at h <;> first | exact Reads.ext h hx | (obtain ⟨p, c, e, r⟩ := h; exact ⟨p, c, e, r.ext hx⟩) | exact h | trivial

abbrev cellsPS : Array Value := #[.string ⟨#[]⟩, .int .i64 1, .string ⟨#[115]⟩, .string noText, .string ⟨#[121]⟩, .int .i64 0, .string ⟨#[]⟩, .string ⟨#[]⟩, .string ⟨#[122]⟩, .int .i64 0, .string ⟨#[]⟩, .string ⟨#[]⟩]
theorem set_first {w : World} {b : Nat} {T : TypeId} (hb : w.heap[b]? = some (.cells cellsPX T)) {B : Nat} {w0 : World} (hB : B ≤ b) (hw : Below B w0 w) :
    ∃ w', w' = (((w.setCell ⟨b, 0, none⟩ (.string ⟨#[]⟩)).setCell ⟨b, 1, none⟩ (.int .i64 1)).setCell ⟨b, 2, none⟩ (.string ⟨#[115]⟩)).setCell ⟨b, 3, none⟩ (.string noText) ∧ w'.heap[b]? = some (.cells cellsPS T) ∧ Below B w0 w' ∧ (∀ k, k ≠ b → w'.heap[k]? = w.heap[k]?) := by
  have h0 := heap_setCell_same w b 0 _ _ (.string ⟨#[]⟩) hb
  have h1 := heap_setCell_same _ b 1 _ _ (.int .i64 1) h0
  have h2 := heap_setCell_same _ b 2 _ _ (.string ⟨#[115]⟩) h1
  have h3 := heap_setCell_same _ b 3 _ _ (.string noText) h2
  exact ⟨_, rfl, h3, (((hw.setCell hB _).setCell hB _).setCell hB _).setCell hB _, fun k hk => by
    rw [Below.heap_setCell _ _ _ _ hk, Below.heap_setCell _ _ _ _ hk, Below.heap_setCell _ _ _ _ hk, Below.heap_setCell _ _ _ _ hk]⟩

theorem make_ints (n : Nat) (hn : n ≤ 1000) (W : World) : (Instr.makeSlice 34 (.int .i64 (n : Int)) (.int .i64 (n : Int))).run Try.prog W = .ok (.slice (some ⟨W.heap.size, 0, none⟩) n n) (W.alloc (.cells (Array.replicate n (.int .i64 0)) 3)) := by
  obtain ⟨i, hi, hz, hs, hb⟩ : ∃ i, Try.prog.info? 3 = some i ∧ i.zero = some (.int .i64 0) ∧ i.size = 1 ∧ i.bytes = 8 := ⟨_, rfl, rfl, rfl, rfl⟩
  have h := run_make (P := Try.prog) W 34 3 i (.int .i64 0) Try.underlying34 hi hz .i64 .i64 (n : Int) (n : Int) (by omega) (Int.le_refl _) (by rw [hb]; omega) (by omega)
  rw [h, hs]
  have e : madeCells (Value.int .i64 0).cells (n * 1) = Array.replicate n (.int .i64 0) := by
    apply Array.toList_inj.1
    have := toList_madeCells_one (.int .i64 0) n
    simpa [Value.cells] using this
  simp only [Int.toNat_natCast, e]
theorem back_start (ns : List Nat) (w : World) (hn : ns.length ≤ 1000) : (w.alloc (.cells (Array.replicate ns.length (.int .i64 0)) 3)).ownsRow w.heap.size 3 1 (.slice (some ⟨w.heap.size, 0, none⟩) ns.length ns.length) ns.length ((ints (backTo ns 0)).flatMap encI) := by
  have := own_new w w.heap.size (Array.replicate ns.length (.int .i64 0)) 3 ns.length 1 (Nat.le_refl _) (by unfold maxLen; omega) (by simp)
  have e : (Array.replicate ns.length (Value.int .i64 0)).toList = (ints (backTo ns 0)).flatMap encI := by rw [flat_I]; simp [ints, backTo]
  rwa [e] at this
theorem back_step {w : World} {ns : List Nat} {j : Nat} {base g n cap : Nat} (hj : j < ns.length) (h : w.ownsRow base 3 1 (.slice (some ⟨g, 0, none⟩) n cap) n ((ints (backTo ns j)).flatMap encI)) :
    (w.setCell ⟨g, ns[j], none⟩ (.int .i64 (j : Int))).ownsRow base 3 1 (.slice (some ⟨g, 0, none⟩) n cap) n ((ints (backTo ns (j + 1))).flatMap encI) := by
  have := (h.stored ns[j] (.int .i64 (j : Int))).1
  have e : ns.getD j 0 = ns[j] := by simp [List.getD, hj]
  rw [backTo, e]
  rw [flat_I] at this ⊢
  unfold ints at *
  rwa [List.map_set, List.map_set]
theorem back_cell {w : World} {ns : List Nat} {j k : Nat} {base g n cap : Nat} (hk : k < ns.length) (hnn : ns.length = n) (h : w.ownsRow base 3 1 (.slice (some ⟨g, 0, none⟩) n cap) n ((ints (backTo ns j)).flatMap encI)) : ∃ old, w.cell? ⟨g, k, none⟩ = some (.int .i64 old) := by
  have hl : k < (ints (backTo ns j)).length := by rw [ints_len, backTo_len]; exact hk
  refine ⟨(ints (backTo ns j))[k], ?_⟩
  rw [h.cellAt k (by omega)]
  simp [flat_I]

theorem planAll_walk (vset vv vp : Value) (set : List Tr) (q : Qu) (w : World) (hs : Reads encTr w vset set) (hv : Reads encS w vv q.vars) (hp : Reads encPat w vp q.parts) :
    Calls Try.prog 3 #[vset, vQu vv vp q] w fun e w' => e = .returned (.bool true) ∧ Ext w w' := by
  have hbad := fun n (h : (setErr set).or (askErr q) = some n) W (hW : Ext w W) => planOrder_bad vset vv vp set q W (hs.ext hW) (hp.ext hW) (hv.ext hW) n h
  have hok := fun (h1 : setErr set = none) (h2 : askErr q = none) W (hW : Ext w W) => planOrder_ok vset vv vp set q W (hs.ext hW) (hp.ext hW) (hv.ext hW) h1 h2
  have hnm := name_any
  obtain ⟨a0, cs, rfl⟩ := hs.slice
  obtain ⟨av, cv, rfl⟩ := hv.slice
  obtain ⟨ap, cp, rfl⟩ := hp.slice
  have HH := Lib.hid (And.intro hbad (And.intro hok (And.intro hv hp)))
  have HN := Lib.hid hnm
  clear hbad hok hs hv hp hnm
  obtain ⟨vars, parts, order, down, dist, limit⟩ := q
  dsimp only at *
  have hx0 := (((Ext.refl w).alloc (.cells #[.slice av vars.length cv, .slice ap parts.length cp, .string order, .bool down, .bool dist, .int .i64 limit] 26)).alloc (.cells cellsPX 32)).alloc (.cells cellsPX 32)
  have hx1 := ((Ext.refl (w.alloc (.cells #[.slice av vars.length cv, .slice ap parts.length cp, .string order, .bool down, .bool dist, .int .i64 limit] 26))).alloc (.cells cellsPX 32)).alloc (.cells cellsPX 32)
  have hx2 := (Ext.refl ((w.alloc (.cells #[.slice av vars.length cv, .slice ap parts.length cp, .string order, .bool down, .bool dist, .int .i64 limit] 26)).alloc (.cells cellsPX 32))).alloc (.cells cellsPX 32)
  have hb0 := heap_ext hx1 (alloc_heap_new w (.cells #[.slice av vars.length cv, .slice ap parts.length cp, .string order, .bool down, .bool dist, .int .i64 limit] 26))
  have hb1 := heap_ext hx2 (alloc_heap_new (w.alloc (.cells #[.slice av vars.length cv, .slice ap parts.length cp, .string order, .bool down, .bool dist, .int .i64 limit] 26)) (.cells cellsPX 32))
  have hb2 := alloc_heap_new ((w.alloc (.cells #[.slice av vars.length cv, .slice ap parts.length cp, .string order, .bool down, .bool dist, .int .i64 limit] 26)).alloc (.cells cellsPX 32)) (.cells cellsPX 32)
  simp only [World.size_alloc] at hb1 hb2
  clear hx1 hx2
  go_enter Try.func3, Try.ntmps3
  go_upto_region 3 with fail
  generalize hwa : World.alloc (World.alloc (World.alloc w _) _) _ = wa at hx0 hb0 hb1 hb2 ⊢
  clear hwa
  go_upto_region 4 with (go_at_call 7; refine (HN.out _ _).mono ?_; rintro e w1 ⟨rfl, hxn⟩; have A := cells_at (heap_ext hxn hb2); have fz : ∀ i, w1.frozen? ⟨w.heap.size + 1 + 1, i, none⟩ = false := fun i => by simp [World.frozen?, heap_ext hxn hb2])
  obtain ⟨w2, hw2, hc2, hx2, hk2⟩ := set_first (heap_ext hxn hb2) (show w.heap.size ≤ w.heap.size + 1 + 1 by omega) (hx0.trans hxn)
  rw [← hw2]
  have hc0 : w2.heap[w.heap.size]? = _ := (hk2 w.heap.size (by omega)).trans (heap_ext hxn hb0)
  have hc1 : w2.heap[w.heap.size + 1]? = _ := (hk2 (w.heap.size + 1) (by omega)).trans (heap_ext hxn hb1)
  clear hw2 hk2 A fz hb0 hb1 hb2 hxn hx0
  have hxs := (Ext.refl w2).alloc (.cells #[.string ⟨#[120]⟩] 9)
  have A := cells_at (heap_ext hxs hc1)
  have B := cells_at (heap_ext hxs hc2)
  go_upto_region 5 with fail
  clear A B
  have rs : Reads encS (w2.alloc (.cells #[.string ⟨#[120]⟩] 9)) (.slice (some ⟨w2.heap.size, 0, none⟩) 1 1) [⟨#[120]⟩] := Reads.of_owns (own_new w2 0 #[.string ⟨#[120]⟩] 9 1 1 (Nat.zero_le _) (by decide) rfl)
  have rp : Reads encPat ((w2.alloc (.cells #[.string ⟨#[120]⟩] 9)).alloc (.cells cellsXS 32)) (.slice (some ⟨(w2.alloc (.cells #[.string ⟨#[120]⟩] 9)).heap.size, 0, none⟩) 2 2) [patX, patS] := Reads.of_owns (own_new _ 0 cellsXS 32 2 12 (Nat.zero_le _) (by decide) rfl)
  rw [World.size_alloc] at rp
  have hxp := (Ext.refl (w2.alloc (.cells #[.string ⟨#[120]⟩] 9))).alloc (.cells cellsXS 32)
  have hxq := (Ext.refl ((w2.alloc (.cells #[.string ⟨#[120]⟩] 9)).alloc (.cells cellsXS 32))).alloc (.cells #[.slice (some ⟨w2.heap.size, 0, none⟩) 1 1, .slice (some ⟨w2.heap.size + 1, 0, none⟩) 2 2, .string ⟨#[]⟩, .bool false, .bool false, .int .i64 (-1)] 26)
  have hbq := alloc_heap_new ((w2.alloc (.cells #[.string ⟨#[120]⟩] 9)).alloc (.cells cellsXS 32)) (.cells #[.slice (some ⟨w2.heap.size, 0, none⟩) 1 1, .slice (some ⟨w2.heap.size + 1, 0, none⟩) 2 2, .string ⟨#[]⟩, .bool false, .bool false, .int .i64 (-1)] 26)
  simp only [World.size_alloc] at hbq
  replace rs := rs.ext (hxp.trans hxq)
  replace rp := rp.ext hxq
  have hxw : Ext w _ := Ext.trans hx2 (hxs.trans (hxp.trans hxq))
  replace hc0 := heap_ext (hxs.trans (hxp.trans hxq)) hc0
  clear hxs hxp hxq hc1 hc2 hx2
  generalize World.alloc (World.alloc (World.alloc w2 _) _) _ = w3 at rs rp hbq hxw hc0 ⊢
  have hmany := fun W => many_any 2 (by decide) W
  have hone : ∀ W v, Ext w3 W → Reads encTr W v (manyL 2) → Calls Try.prog 8 #[v, vQu (.slice (some ⟨w2.heap.size, 0, none⟩) 1 1) (.slice (some ⟨w2.heap.size + 1, 0, none⟩) 2 2) quOne] W fun e w' => ∃ p c, e = .returned (.tuple #[.slice p 2 c, .nilIface]) ∧ Reads encI w' (.slice p 2 c) [1, 0] ∧ Ext W w' := fun W v hW hv => by
    have := planOrder_ok v _ _ (manyL 2) quOne W hv (rp.ext hW) (rs.ext hW) many2_ok quOne_ask
    have e : planOrder quOne.parts (manyL 2) = [1, 0] := quOne_order
    rw [e] at this
    exact this
  have HO := Lib.hid (And.intro hmany hone)
  have HX := Lib.hid (And.intro hxw hc0)
  have A := Later.cells hbq
  clear hmany hone rs rp hxw hc0 hbq
  refine wp_region_treez (Ext w3) [1] ([0, 2, 3, 4, 5, 6].length + 1) 7 (by kernel_rfl) (by kernel_rfl) (fun _ _ h k => h.trans k) (Ext.refl w3) ?_
  simp only [List.filterMap_cons, List.filterMap_nil, List.getElem?_cons_succ, List.getElem?_cons_zero]
  repeat (first | ((with_reducible refine wpFr_yes ?hw ?_); (case hw => rfl); intro K hK; go_simp; (first | (refine hK _ ?_; clear hK K) | (apply Exists.intro; refine ⟨fun x => ?_, hK _ ?_⟩; (fail); clear hK K))) | ((with_reducible refine wpFr_not ?hw ?_); (case hw => rfl); intro K hK; go_simp; (refine hK _ ?_; clear hK K)))
  refine wpFr_nil ?_
  refine wpE_steps [0, 2, 3, 4, 5, 6] (fun i => match i with | 0 => [] | 2 => [0] | 3 => [2] | 4 => [3] | 5 => [3] | 6 => [4] | _ => []) ?R rfl (by kernel_rfl) (fun _ _ h k => h.trans k) (Ext.refl w3) ?hR ?hstep ?hend
  case R => exact allR
  case hR => exact allR_ext
  case hstep =>
    simp only [stepsOk, List.getElem?_toArray, List.getElem?_cons_succ, List.getElem?_cons_zero]
    refine ⟨?s0, ?s2, ?s3, ?s4, ?s5, ?s6, trivial⟩
    case s0 =>
      intro f W hW hd
      simp only [putAll, dstOf, List.getElem?_toArray, List.getElem?_cons_succ, List.getElem?_cons_zero, Option.bind_some]
      refine opI_yes rfl ?_
      go_simp
      refine (HO.out.1 W).mono ?_
      rintro e w' ⟨v', rfl, ho, hx⟩
      exact ⟨_, rfl, hx, ho.reads⟩
    case s2 =>
      intro f W hW hd
      have h0 : Reads encTr W (f 0) (manyL 2) := hd 0 (by simp)
      obtain ⟨p0, c0, e0⟩ := h0.slice
      simp only [putAll, dstOf, List.getElem?_toArray, List.getElem?_cons_succ, List.getElem?_cons_zero, Option.bind_some]
      rw [e0] at h0 ⊢
      have H0 := Lib.hid h0
      clear h0 e0 hd
      refine opI_yes rfl ?_
      go_simp
      refine (HO.out.2 W _ hW H0.out).mono ?_
      rintro e w' ⟨p, c, rfl, hr, hx⟩
      exact ⟨_, rfl, hx, ⟨p, c, rfl, hr⟩⟩
    case s3 =>
      intro f W hW hd
      obtain ⟨p, c, e2, r⟩ : ∃ p c, f 2 = .tuple #[.slice p 2 c, .nilIface] ∧ Reads encI W (.slice p 2 c) [1, 0] := hd 2 (by simp)
      have R := Lib.hid r
      clear r
      simp only [putAll, dstOf, List.getElem?_toArray, List.getElem?_cons_succ, List.getElem?_cons_zero, Option.bind_some]
      rw [e2]
      refine opI_yes rfl ?_
      go_simp
      exact ⟨Ext.refl _, ⟨_, _, rfl, R.out⟩⟩
    case s4 =>
      intro f W hW hd
      obtain ⟨p, c, e3, r⟩ : ∃ p c, f 3 = .tuple #[.slice p 2 c, .nilIface] ∧ Reads encI W (.slice p 2 c) [1, 0] := hd 3 (by simp)
      have R := Lib.hid r
      clear r
      simp only [putAll, dstOf, List.getElem?_toArray, List.getElem?_cons_succ, List.getElem?_cons_zero, Option.bind_some]
      rw [e3]
      refine opI_yes rfl ?_
      go_simp
      exact ⟨Ext.refl _, ⟨_, _, rfl, R.out⟩⟩
    case s5 =>
      intro f W hW hd
      obtain ⟨p, c, e3, r⟩ : ∃ p c, f 3 = .tuple #[.slice p 2 c, .nilIface] ∧ Reads encI W (.slice p 2 c) [1, 0] := hd 3 (by simp)
      clear r
      simp only [putAll, dstOf, List.getElem?_toArray, List.getElem?_cons_succ, List.getElem?_cons_zero, Option.bind_some]
      rw [e3]
      refine opI_yes rfl ?_
      go_simp
      exact ⟨Ext.refl _, rfl⟩
    case s6 =>
      intro f W hW hd
      obtain ⟨p, c, e4, r⟩ : ∃ p c, f 4 = .slice p 2 c ∧ Reads encI W (.slice p 2 c) [1, 0] := hd 4 (by simp)
      have R := Lib.hid r
      clear r
      simp only [putAll, dstOf, List.getElem?_toArray, List.getElem?_cons_succ, List.getElem?_cons_zero, Option.bind_some]
      rw [e4]
      refine opI_yes rfl ?_
      go_simp
      exact ⟨Ext.refl _, ⟨_, _, rfl, R.out⟩⟩
  case hend =>
    intro f W K hW hr hK
    have h5 : f 5 = .nilIface := hr 5 (by simp)
    obtain ⟨p6, c6, e6, r6⟩ : ∃ p c, f 6 = .slice p 2 c ∧ Reads encI W (.slice p 2 c) [1, 0] := hr 6 (by simp)
    clear hr
    simp only [putAll, dstOf, List.getElem?_toArray, List.getElem?_cons_succ, List.getElem?_cons_zero, Option.bind_some]
    rw [h5, e6]
    have R6 := Lib.hid r6
    clear h5 e6 r6
    generalize f 0 = g0
    generalize f 2 = g2
    generalize f 3 = g3
    generalize f 4 = g4
    refine lastI_yes rfl ?_
    go_simp
    refine hK _ _ (fun z hz => ?_)
    clear hK K A
    obtain ⟨_, _, hval, _, _, hcl⟩ := R6.out.ext hz
    cases hval
    obtain ⟨b6, o6, rfl, hc6⟩ := hcl (by simp)
    have d6 : z.cell? ⟨b6, o6, none⟩ = some (.int .i64 1) := hc6 0 (.int .i64 1) rfl
    have hxz := (HX.out.1.trans hW).trans hz
    have hcz := heap_ext (hW.trans hz) HX.out.2
    clear hcl hc6 hW hz
    go_upto_region 8 with fail
    clear d6
    have A := cells_at hcz
    cases hor : (setErr set).or (askErr ⟨vars, parts, order, down, dist, limit⟩) with
    | some n =>
      have hb := HH.out.1 n hor
      go_wp2_with (go_at_call 8; refine (hb _ hxz).mono ?_; rintro e w4 ⟨rfl, hx4⟩)
      go_ret
      exact ⟨rfl, hxz.trans hx4⟩
    | none =>
      have h1 : setErr set = none := by
        cases h : setErr set with
        | none => rfl
        | some n => rw [h] at hor; cases hor
      rw [h1, Option.none_or] at hor
      obtain ⟨ns, hns, hperm⟩ := order_ints (planOrder_perm parts set)
      have hnl : ns.length = parts.length := by rw [hperm.length_eq, List.length_range]
      have hok := HH.out.2.1 h1 hor
      rw [hns, ints_len, hnl] at hok
      have h6 := (askErr_none hor).1
      have h8 := askErr_vars hor
      dsimp only at h6 h8
      rw [← hnl] at hperm
      obtain ⟨m1, m2, m3⟩ := backTo_all hperm
      have hd := hperm.nodup_iff.2 List.nodup_range
      have hbd : ∀ i ∈ ns, i < parts.length := fun i hi => by have := List.mem_range.1 (hperm.mem_iff.1 hi); omega
      have hsw1 : ∀ W vo, Ext w W → Reads encI W vo (ints ns) → _ := fun W vo hW hvo => planSwap_ok (.slice av vars.length cv) (.slice ap parts.length cp) vo ⟨vars, parts, order, down, dist, limit⟩ ns W (HH.out.2.2.1.ext hW) (HH.out.2.2.2.ext hW) hvo hnl h6 (by show vars.length ≤ 100000; omega) hbd hd
      have hsw2 : ∀ W vv vp vo, Reads encS W vv vars → Reads encPat W vp (takeParts parts ns) → Reads encI W vo (ints (backTo ns ns.length)) → Calls Try.prog 10 #[.agg #[vv, vp, .string order, .bool down, .bool dist, .int .i64 limit], vo] W fun e w' => ∃ pa ca pb cb, e = .returned (.tuple #[.agg #[.slice pa vars.length ca, .slice pb parts.length cb, .string order, .bool down, .bool dist, .int .i64 limit], .nilIface]) ∧ Reads encS w' (.slice pa vars.length ca) vars ∧ Reads encPat w' (.slice pb parts.length cb) parts ∧ Ext W w' := fun W vv vp vo r1 r2 r3 => by
        have hl2 : (takeParts parts ns).length = parts.length := by rw [takeParts_len, hnl]
        have := planSwap_ok vv vp vo ⟨vars, takeParts parts ns, order, down, dist, limit⟩ (backTo ns ns.length) W r1 r2 r3 (by show _ = (takeParts parts ns).length; rw [backTo_len, takeParts_len]) (by show (takeParts parts ns).length ≤ 6; omega) (by show vars.length ≤ 100000; omega) (fun i hi => by show i < (takeParts parts ns).length; have := m2 i hi; omega) m1
        dsimp only at this
        rw [hl2, m3 parts hnl.symm] at this
        exact this
      have hqs : ∀ W va vb, Ext w W → Reads encS W va vars → Reads encPat W vb parts → Calls Try.prog 11 #[.agg #[va, vb, .string order, .bool down, .bool dist, .int .i64 limit], vQu (.slice av vars.length cv) (.slice ap parts.length cp) ⟨vars, parts, order, down, dist, limit⟩] W fun e w' => e = .returned (.bool true) ∧ Ext W w' := fun W va vb hW r1 r2 =>
        query_same va (.slice av vars.length cv) vb (.slice ap parts.length cp) ⟨vars, parts, order, down, dist, limit⟩ W r1 r2 (HH.out.2.2.1.ext hW) (HH.out.2.2.2.ext hW)
      have hmk := make_ints parts.length (by omega)
      have HS := Lib.hid (And.intro hsw1 (And.intro hsw2 hqs))
      have HP := Lib.hid (And.intro hperm (And.intro hnl hbd))
      clear hsw1 hsw2 hqs h1 hor hns m1 m2 m3 hd hperm hnl hbd
      go_upto_region 11 with (go_at_call 8; refine (hok _ hxz).mono ?_; rintro e w4 ⟨p4, c4, rfl, hr4, hx4⟩; have H4 := Lib.hid hr4; clear hr4)
      clear A
      have A := cells_at (heap_ext hx4 hcz)
      go_upto_region 12 with (go_at_call 10; refine (HS.out.1 _ _ (hxz.trans hx4) H4.out).mono ?_; rintro e w5 ⟨pa, ca, pb, cb, rfl, hr1, hr2, hx5⟩; have H5 := Lib.hid (And.intro hr1 hr2); clear hr1 hr2)
      clear A hmk
      have hmk := make_ints parts.length (by omega)
      have H6 := Lib.hid (And.intro (H5.out.1.ext ((Ext.refl w5).alloc (.cells #[.slice pa vars.length ca, .slice pb parts.length cb, .string order, .bool down, .bool dist, .int .i64 limit] 26))) (H5.out.2.ext ((Ext.refl w5).alloc (.cells #[.slice pa vars.length ca, .slice pb parts.length cb, .string order, .bool down, .bool dist, .int .i64 limit] 26))))
      have hx6 := hx5.alloc (.cells #[.slice pa vars.length ca, .slice pb parts.length cb, .string order, .bool down, .bool dist, .int .i64 limit] 26)
      have hbx := alloc_heap_new w5 (.cells #[.slice pa vars.length ca, .slice pb parts.length cb, .string order, .bool down, .bool dist, .int .i64 limit] 26)
      clear H5 hx5
      generalize World.alloc w5 _ = w6 at H6 hx6 hbx ⊢
      generalize w5.heap.size = xb at hbx ⊢
      go_upto_region 13 with fail
      clear hmk
      have hst := back_start ns w6 (by have := HP.out.2.1; omega)
      rw [HP.out.2.1] at hst
      have hx7 := (Ext.refl w6).alloc (.cells (Array.replicate parts.length (.int .i64 0)) 3)
      generalize World.alloc w6 _ = w7 at hst hx7 ⊢
      have HST := Lib.hid hst
      clear hst
      have hcap := H4.out
      obtain ⟨_, _, hval, _, hmax4, hcl4⟩ := hcap
      rw [ints_len, HP.out.2.1] at hval
      cases hval
      unfold maxLen at hmax4
      have HC4 := Lib.hid hcl4
      clear hcl4
      generalize hbb : w6.heap.size = bb at HST ⊢
      have HBB := Lib.hid hbb
      clear hbb
      go_wp2
      go_loopw [15] (fun iv wr => ∃ j : Nat, iv = .int .i64 j ∧ j ≤ parts.length ∧ Hid (wr.ownsRow bb 3 1 (.slice (some ⟨bb, 0, none⟩) parts.length parts.length) parts.length ((ints (backTo ns j)).flatMap encI)) ∧ Ext w6 wr) (fun iv _ => parts.length - (intOf iv).toNat)
      case atStart => exact ⟨0, rfl, Nat.zero_le _, HST, hx7⟩
      case round =>
        obtain ⟨j, rfl, hj, HI, hx⟩ := hrel
        clear hx7 HST
        by_cases hlt : j < parts.length
        · have hnl := HP.out.2.1
          have hjn : j < ns.length := by omega
          obtain ⟨bo, oo, rfl, hco⟩ := HC4.out (fun e => by have := ints_len ns; rw [e] at this; simp at this; omega)
          have d := (hx6.trans hx).cell (Reads.int_at hco (show j < (ints ns).length by rw [ints_len]; exact hjn))
          have hij : (ints ns)[j]'(by rw [ints_len]; exact hjn) = ((ns[j] : Nat) : Int) := by simp [ints]
          rw [hij] at d
          have hkb := HP.out.2.2 ns[j] (List.getElem_mem hjn)
          obtain ⟨old, d2⟩ := back_cell (k := ns[j]) (by omega) hnl HI.out
          have d3 := HI.out.frozenAt ns[j]
          have hstep := back_step hjn HI.out
          have hxs : Ext w6 (wr.setCell ⟨bb, ns[j], none⟩ (.int .i64 (j : Int))) := hx.setCell (by show w6.heap.size ≤ bb; rw [HBB.out]; exact Nat.le_refl _) _
          have HJ := Lib.hid (And.intro hstep hxs)
          clear hij hstep hxs hco hnl
          generalize ns[j] = k at d hkb d2 d3 HJ
          have hkI : (k : Int) < (parts.length : Int) := by omega
          have hk0 : ¬ ((k : Int) < 0) := by omega
          have hk1 : ¬ ((parts.length : Int) ≤ (k : Int)) := by omega
          go_wp2
          go_roundw
          case rel => exact ⟨j + 1, vi (by omega), hlt, Lib.hid HJ.out.1, HJ.out.2⟩
          case measure => simp [intOf]; omega
        · have hjl : j = parts.length := by omega
          subst hjl
          have r0 : Reads encI wr (.slice (some ⟨bb, 0, none⟩) parts.length parts.length) (ints (backTo ns ns.length)) := by
            have hl : (ints (backTo ns ns.length)).length = parts.length := by rw [ints_len, backTo_len, HP.out.2.1]
            refine Reads.of_owns (base := bb) (e := 3) (size := 1) ?_
            rw [hl]
            have := HI.out
            rw [← HP.out.2.1] at this ⊢
            exact this
          have HR := Lib.hid r0
          have hxz' := (hxz.trans hx4).trans (hx6.trans hx)
          have A := cells_at (heap_ext hx hbx)
          clear r0
          go_upto_region 20 with (go_at_call 10; refine (HS.out.2.1 _ _ _ _ (H6.out.1.ext hx) (H6.out.2.ext hx) HR.out).mono ?_; rintro e w8 ⟨pc, cc, pd, cd, rfl, hr3, hr4, hx8⟩; have H8 := Lib.hid (And.intro hr3 hr4); clear hr3 hr4)
          clear A
          have H9 := Lib.hid (And.intro (H8.out.1.ext ((Ext.refl w8).alloc (.cells #[.slice pc vars.length cc, .slice pd parts.length cd, .string order, .bool down, .bool dist, .int .i64 limit] 26))) (H8.out.2.ext ((Ext.refl w8).alloc (.cells #[.slice pc vars.length cc, .slice pd parts.length cd, .string order, .bool down, .bool dist, .int .i64 limit] 26))))
          have hx9 := hx8.alloc (.cells #[.slice pc vars.length cc, .slice pd parts.length cd, .string order, .bool down, .bool dist, .int .i64 limit] 26)
          have hby := alloc_heap_new w8 (.cells #[.slice pc vars.length cc, .slice pd parts.length cd, .string order, .bool down, .bool dist, .int .i64 limit] 26)
          clear H8 hx8
          generalize World.alloc w8 _ = w9 at H9 hx9 hby ⊢
          generalize w8.heap.size = yb at hby ⊢
          have A := cells_at hby
          have hxe := hx4.trans ((hx6.trans hx).trans hx9)
          have B := cells_at (heap_ext hxe hcz)
          go_wp2_with (go_at_call 11; refine (HS.out.2.2 _ _ _ (hxz.trans hxe) H9.out.1 H9.out.2).mono ?_; rintro e w10 ⟨rfl, hx10⟩)
          go_ret
          exact ⟨rfl, (hxz.trans hxe).trans hx10⟩

theorem planAll_any {w : World} (vset : Value) (set : List Tr) (hs : Reads encTr w vset set) {q1 : Prop} (_ : q1) (vq : Value) (q : Qu) (hq : QReads w vq q) {q2 : Prop} (_ : q2) (_ : World) :
    Calls Try.prog 3 #[vset, vq] w fun e w' => e = .returned (.bool true) ∧ Ext w w' := by
  obtain ⟨vv, vp, rfl, hv, hp⟩ := hq
  exact planAll_walk vset vv vp set q w hs hv hp
end Go.Proofs.Ytmobdmljbbckiaa
