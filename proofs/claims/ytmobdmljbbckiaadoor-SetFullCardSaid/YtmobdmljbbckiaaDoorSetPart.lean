/- set.Part, set.Right. -/
import Derived.Test.YtmobdmljbbckiaaDoorSetIn
import Derived.Test.YtmobdmljbbckiaaDoorDeleteTr
import Derived.Test.YtmobdmljbbckiaaDoorSorted
import Derived.Test.YtmobdmljbbckiaaDoorLayerPure
namespace Go.Proofs.YtmobdmljbbckiaaDoor
open Go.RowKit
set_option maxHeartbeats 3200000
set_option maxRecDepth 100000

theorem part1_any (t : Tr) (b : List Tr) (is : Bool) (vb : Value) (b1 b2 : Nat) (W : World) (h1 : W.cell? ⟨b1, 0, none⟩ = some vb) (h2 : W.cell? ⟨b2, 0, none⟩ = some (.bool is)) (hb : Reads encTr W vb b) (hs : Rises cmpTr b) (hn : b.length ≤ 100000) :
    Calls Tryd.prog 57 #[vTr t, .pointer (some ⟨b1, 0, none⟩), .pointer (some ⟨b2, 0, none⟩)] W fun e w' => e = .returned (.bool (!(decide (t ∈ b) == is))) ∧ Ext W w' := by
  have hx := (Ext.refl W).alloc (.cells #[.int .i64 t.s.kind, .string t.s.s, .string t.s.lang, .int .i64 t.p.kind, .string t.p.s, .string t.p.lang, .int .i64 t.o.kind, .string t.o.s, .string t.o.lang] 28)
  have hbx := alloc_heap_new W (.cells #[.int .i64 t.s.kind, .string t.s.s, .string t.s.lang, .int .i64 t.p.kind, .string t.p.s, .string t.p.lang, .int .i64 t.o.kind, .string t.o.s, .string t.o.lang] 28)
  have hin := fun V (h : Ext W V) => setIn_any vb b t V (hb.ext h) hs hn
  obtain ⟨r, hr⟩ : ∃ r, r = decide (t ∈ b) := ⟨_, rfl⟩
  rw [← hr] at hin ⊢
  have HI := Lib.hid hin
  clear hin hr hs
  obtain ⟨a, cap, rfl, _⟩ := hb
  go_enter Tryd.func57, Tryd.ntmps57
  go_upto_region 1 with fail
  generalize hwb : World.alloc W _ = wb at hx hbx ⊢
  clear hwb
  have A := Later.cells hbx
  have B := Later.cell (hx.cell h1)
  have C := Later.cell (hx.cell h2)
  have hl := fun (x : Later wb) => (HI.out x.wd (hx.trans x.ext))
  have HL := Lib.hid hl
  clear hl
  refine wp_region_ext [0, 1, 2, 3, 4, 5] [] (by kernel_rfl) (by kernel_rfl) ?_
  simp only [List.filterMap_cons, List.filterMap_nil, List.getElem?_cons_succ, List.getElem?_cons_zero]
  repeat (first | ((with_reducible refine wpFr_yes ?hw ?_); (case hw => rfl); intro K hK; go_simp; (first | (refine hK _ ?_; clear hK K) | (apply Exists.intro; refine ⟨fun x => ?_, hK _ ?_⟩; ((go_at_call 58; exact HL.out _)); clear hK K))) | ((with_reducible refine wpFr_not ?hw ?_); (case hw => rfl); intro K hK; go_simp; (refine hK _ ?_; clear hK K)))
  refine wpFr_nil ?_
  refine wpTl_nil fun x hxx => ?_
  clear A B C
  go_wp2
  go_ret
  exact ⟨by cases r <;> cases is <;> rfl, hx.trans hxx⟩

theorem part_any (va vb : Value) (a b : List Tr) (is : Bool) (w : World) (ha : Reads encTr w va a) (hb : Reads encTr w vb b) (hs : Rises cmpTr b) (hna : a.length ≤ 100000) (hnb : b.length ≤ 100000) :
    Calls Tryd.prog 42 #[va, vb, .bool is] w fun e w' => ∃ v', e = .returned v' ∧ w'.ownsRow w.heap.size 28 9 v' (partL a b is).length ((partL a b is).flatMap encTr) ∧ Ext w w' := by
  have hx := ((Ext.refl w).alloc (.cells #[vb] 22)).alloc (.cells #[.bool is] 4)
  obtain ⟨ab, cb, hvb⟩ : ∃ ab cb, vb = .slice ab b.length cb := by obtain ⟨ab, cb, h, _⟩ := hb; exact ⟨ab, cb, h⟩
  have h1 : ((w.alloc (.cells #[vb] 22)).alloc (.cells #[.bool is] 4)).cell? ⟨w.heap.size, 0, none⟩ = some vb := by subst hvb; go_simp
  have h2 : ((w.alloc (.cells #[vb] 22)).alloc (.cells #[.bool is] 4)).cell? ⟨w.heap.size + 1, 0, none⟩ = some (.bool is) := by subst hvb; go_simp
  subst hvb
  go_enter Tryd.func42, Tryd.ntmps42
  go_upto_region 1 with fail
  generalize hwb : World.alloc (World.alloc w _) _ = wb at h1 h2 hx ⊢
  clear hwb
  have hcl := clone_tr va a wb (ha.ext hx) hna
  have hdel : ∀ v1 w1, w1.ownsRow wb.heap.size 28 9 v1 a.length (a.flatMap encTr) → Ext wb w1 → Calls Tryd.prog 56 #[v1, .func (.func 57) #[] #[.pointer (some ⟨w.heap.size, 0, none⟩), .pointer (some ⟨w.heap.size + 1, 0, none⟩)]] w1 fun e w' => ∃ v', e = .returned v' ∧
      w'.ownsRow w.heap.size 28 9 v' (partL a b is).length ((partL a b is).flatMap encTr) ∧ Ext w w' := fun v1 w1 ho hx1 => by
    have := deleteFunc_tr v1 a w1 wb.heap.size 57 #[.pointer (some ⟨w.heap.size, 0, none⟩), .pointer (some ⟨w.heap.size + 1, 0, none⟩)] (fun t => !(decide (t ∈ b) == is)) ho hx1.size
      ⟨Go.Proofs.enters_of Tryd.func57 (by kernel_rfl) rfl, fun W x _ hW => part1_any x b is _ w.heap.size (w.heap.size + 1) W (Ext.cell (Below.trans hx1 hW) h1) (Ext.cell (Below.trans hx1 hW) h2) (hb.ext (Ext.trans hx (Below.trans hx1 hW))) hs hnb⟩
    refine this.mono fun e w' ⟨v', h1, h2, h3⟩ => ⟨v', h1, ?_, ?_⟩
    · simp only [Bool.not_not] at h2; exact own_mono h2 hx.size
    · exact Ext.trans hx (Below.trans hx1 h3)
  have HD := Lib.hid (And.intro hcl hdel)
  clear hcl hdel h1 h2 hx ha hb hs
  go_wp2_with (first | (go_at_call 23; refine HD.out.1.mono ?_; rintro e w1 ⟨v1, rfl, ho1, hx1⟩) | (go_at_call 56; refine (HD.out.2 _ _ ho1 hx1).mono ?_; rintro e w2 ⟨v2, rfl, ho2, hx2⟩))
  go_ret
  exact ⟨_, rfl, ho2, hx2⟩

/-- a slice of slices of triples: each reads as its list -/
def ReadsSets (w : World) (v : Value) (ls : List (List Tr)) : Prop := ∃ vs : List Value, vs.length = ls.length ∧ Reads (fun u => [u]) w v vs ∧ ∀ j (h : j < vs.length) (h' : j < ls.length), Reads encTr w vs[j] ls[j]
theorem ReadsSets.ext {w w' : World} {v : Value} {ls : List (List Tr)} (h : ReadsSets w v ls) (e : Ext w w') : ReadsSets w' v ls := by
  obtain ⟨vs, h1, h2, h3⟩ := h
  exact ⟨vs, h1, h2.ext e, fun j h h' => (h3 j h h').ext e⟩

theorem rightErr_at (ls : List (List Tr)) : rightErr ls = firstErr (fun i => setErr (ls.getD i [])) ls.length := by
  suffices H : ∀ (ls pre : List (List Tr)), firstErr (fun i => setErr ((pre ++ ls).getD i [])) (pre.length + ls.length) = (firstErr (fun i => setErr (pre.getD i [])) pre.length).or (rightErr ls) by
    have := H ls []
    simp only [List.nil_append, List.length_nil, Nat.zero_add, firstErr, Option.none_or] at this
    exact this.symm
  intro ls
  induction ls with
  | nil => intro pre; simp [rightErr]
  | cons l ls ih =>
    intro pre
    have := ih (pre ++ [l])
    simp only [List.append_assoc, List.singleton_append, List.length_append, List.length_cons, List.length_nil, Nat.zero_add] at this
    rw [List.length_cons, show pre.length + (ls.length + 1) = pre.length + 1 + ls.length by omega, this, rightErr]
    rw [firstErr]
    have e1 : firstErr (fun i => setErr ((pre ++ [l]).getD i [])) pre.length = firstErr (fun i => setErr (pre.getD i [])) pre.length := by
      have : ∀ n, n ≤ pre.length → firstErr (fun i => setErr ((pre ++ [l]).getD i [])) n = firstErr (fun i => setErr (pre.getD i [])) n := by
        intro n
        induction n with
        | zero => intro _; rfl
        | succ n ihn =>
          intro hn
          rw [firstErr, firstErr, ihn (by omega)]
          simp [List.getD, List.getElem?_append_left (show n < pre.length by omega)]
      exact this _ (Nat.le_refl _)
    rw [e1]
    have e2 : (pre ++ [l]).getD pre.length [] = l := by simp [List.getD]
    rw [e2]
    cases firstErr (fun i => setErr (pre.getD i [])) pre.length <;> cases setErr l <;> rfl

theorem right_any (v : Value) (ls : List (List Tr)) (w : World) (hl : ReadsSets w v ls) : Calls Tryd.prog 17 #[v] w fun e w' => e = .returned (errV (rightErr ls)) ∧ Ext w w' := by
  rw [rightErr_at]
  obtain ⟨vs, hlen, ⟨a, cap, rfl, hcap, hmax, hcells⟩, hel⟩ := hl
  unfold maxLen at hmax
  have HE := Lib.hid hel
  have HL := Lib.hid hlen
  clear hel hlen
  go_enter Tryd.func17, Tryd.ntmps17
  go_wp2
  go_loopw [8] (fun jv wr => ∃ j : Nat, jv = .int .i64 j ∧ j ≤ vs.length ∧ Hid (∀ i, i < j → setErr (ls.getD i []) = none) ∧ Ext w wr) (fun jv _ => vs.length - (intOf jv).toNat)
  case atStart => exact ⟨0, rfl, Nat.zero_le _, fun i hi => absurd hi (Nat.not_lt_zero _), Ext.refl _⟩
  case round =>
    obtain ⟨j, rfl, hj, hb, hx⟩ := hrel
    by_cases hlt : j < vs.length
    · obtain ⟨b, off, rfl, hc⟩ := hcells (fun h => by simp [h] at hlt)
      have hjl : j < ls.length := by have := HL.out; omega
      have hel := HE.out j hlt hjl
      have c0 := hx.cell (Reads.one_at (enc1 := fun u : Value => u) hc hlt)
      have hso := fun W (h : Ext wr W) => sorted_any vs[j] ls[j] W (hel.ext (hx.trans h))
      have hgd : ls.getD j [] = ls[j] := getD_at hjl _
      obtain ⟨pa, pc, hpv, _⟩ := hel
      rw [hpv] at c0 hso
      clear hc hcells hpv
      cases hE : setErr ls[j] with
      | some n =>
        rw [hE] at hso
        dsimp only [errV] at hso
        have hfin := firstErr_hit (f := fun i => setErr (ls.getD i [])) (k := j) (e := n) (by rw [hgd]; exact hE) hb.out (n := ls.length) hjl
        have HF := Lib.hid (And.intro hfin hso)
        clear hfin hso hgd hE
        go_wp2_with (go_at_call 29; refine (HF.out.2 _ (Ext.refl _)).mono ?_; rintro e w1 ⟨rfl, hx1⟩)
        go_ret
        exact ⟨by rw [HF.out.1]; rfl, hx.trans hx1⟩
      | none =>
        rw [hE] at hso
        dsimp only [errV] at hso
        have HF := Lib.hid (And.intro hso (And.intro hgd hE))
        clear hso hgd hE
        go_wp2_with (go_at_call 29; refine (HF.out.1 _ (Ext.refl _)).mono ?_; rintro e w1 ⟨rfl, hx1⟩)
        go_roundw
        case rel =>
          refine ⟨j + 1, vi (by omega), hlt, (fun i hi => ?_), hx.trans hx1⟩
          by_cases e : i = j
          · subst e; rw [HF.out.2.1]; exact HF.out.2.2
          · exact hb.out i (by omega)
        case measure => simp [intOf]; omega
    · have hjl : j = vs.length := by omega
      subst hjl
      clear hcells
      have hfin := firstErr_miss (f := fun i => setErr (ls.getD i [])) hb.out
      rw [HL.out] at hfin
      have HF := Lib.hid hfin
      clear hfin
      go_wp2
      go_ret
      exact ⟨by rw [HF.out]; rfl, hx⟩
end Go.Proofs.YtmobdmljbbckiaaDoor
