/- plan.Order of a set and a query that are right. -/
import Derived.Test.YtmobdmljbbckiaaPlanOrder
import Derived.Test.YtmobdmljbbckiaaAppendApart
namespace Go.Proofs.Ytmobdmljbbckiaa
open Go.RowKit Go.Maps
set_option maxHeartbeats 3200000
set_option maxRecDepth 100000

def lenV : Value → Nat
  | .slice _ n _ => n
  | _ => 0
abbrev OwnI (w : World) (B : Nat) (v : Value) (l : List Int) : Prop := w.ownsRow B 3 1 v l.length (l.flatMap encI)
theorem rangeI_succ (n : Nat) : rangeI (n + 1) = rangeI n ++ [(n : Int)] := by simp [rangeI, List.range_succ]
theorem grown_turned {b : Nat} {w w' : World} (h : TurnedAt b w w') : w.grownBy w' (some b) := ⟨h.os, h.tape, h.output, by rw [h.size]; exact Nat.le_refl _, fun k _ hk => h.other k (fun e => hk (by rw [e]))⟩
structure PlanRel (w wa wr : World) (bk mb : Nat) (ps : List Pat) (set : List Tr) (lv ov : Value) (left out : List Int) (K : List ByteArray) : Prop where
  lown : OwnI wr wa.heap.size lv left
  oown : OwnI wr wa.heap.size ov out
  known : MapAt Try.prog 9 wr mb (boolsS K)
  kbox : wr.heap[bk]? = some (.cells #[.map (some mb)] 71)
  ext : Ext wa wr
  apart : ov.ownBlock ≠ lv.ownBlock ∨ ov.ownBlock = none
  nodup : left.Nodup
  bound : ∀ i ∈ left, ∃ n : Nat, i = n ∧ n < ps.length
  small : out.length + left.length ≤ 1000
  goes : orderGo ps set left.length left K out = planOrder ps set

theorem planRel_start {w wa wr : World} {ps : List Pat} {set : List Tr} {lv : Value} (hown : OwnI wr wa.heap.size lv (rangeI ps.length)) (hx : Ext wa wr) (hl : ps.length ≤ 6) :
    PlanRel w wa ((wr.alloc (.map #[] 0)).alloc (.cells #[.map (some wr.heap.size)] 71)) (wr.heap.size + 1) wr.heap.size ps set lv (.slice none 0 0) (rangeI ps.length) [] [] := by
  have hxm := (Ext.refl wr).alloc (.map #[] 0)
  have hxk := hxm.alloc (.cells #[.map (some wr.heap.size)] 71)
  have hbk := alloc_heap_new (wr.alloc (.map #[] 0)) (.cells #[.map (some wr.heap.size)] 71)
  rw [World.size_alloc] at hbk
  have hlj := rangeI_len ps.length
  refine ⟨own_ext hown hxk, World.ownsRow_nil _ _ _ _, (MapAt.made _ _ wr).ext ((Ext.refl _).alloc _), hbk, hx.trans hxk, .inr rfl, rangeI_nodup _, fun i hi => ?_, by simp [hlj]; omega, ?_⟩
  · obtain ⟨n, hn, rfl⟩ := List.mem_map.1 hi
    exact ⟨n, rfl, List.mem_range.1 hn⟩
  · rw [hlj]; rfl

theorem own_not_map {w : World} {b base : Nat} {e : TypeId} {size : Nat} {v : Value} {n : Nat} {xs : List Value} (h : w.ownsRow base e size v n xs) (hb : ∃ es c, w.heap[b]? = some (.map es c)) : v.ownBlock ≠ some b := by
  intro q
  obtain ⟨es, c, hb⟩ := hb
  obtain ⟨_, ⟨rfl, _⟩ | ⟨g, cap, cur, rfl, _, hc, _⟩⟩ := h
  · cases q
  · simp [Value.ownBlock] at q
    subst q
    rw [hb] at hc; cases hc
/-- behind the known variables' loop -/
theorem planRel_7 {w wa wr w6 w7 : World} {mb : Nat} {ps : List Pat} {set : List Tr} {lv ov : Value} {left out : List Int} {K : List ByteArray} (hR : PlanRel w wa wr (mb + 1) mb ps set lv ov left out K) (hwm : wa.heap.size ≤ mb) (hx : Ext wr w6) (hg : w6.grownBy w7 (some mb)) :
    OwnI w7 wa.heap.size lv left ∧ OwnI w7 wa.heap.size ov out ∧ w7.heap[mb + 1]? = some (.cells #[.map (some mb)] 71) ∧ Ext wa w7 ∧ w6.heap.size ≤ w7.heap.size := by
  have hm := (hR.known.ext hx).isMap
  refine ⟨World.ownsRow.kept (own_ext hR.lown hx) hg (.inr (own_not_map (own_ext hR.lown hx) hm)), World.ownsRow.kept (own_ext hR.oown hx) hg (.inr (own_not_map (own_ext hR.oown hx) hm)), ?_, ?_, hg.size⟩
  · rw [hg.block (mb + 1) (Nat.lt_of_lt_of_le (Array.getElem?_eq_some_iff.1 hR.kbox).1 hx.size) (fun e => by cases e)]
    exact heap_ext hx hR.kbox
  · exact Below.grown (hR.ext.trans hx) hg (Nat.le_trans hR.ext.size hx.size) (fun k e => by cases e; exact hwm)
/-- behind the append -/
theorem planRel_8 {wa w7 w8 : World} {lv ov : Value} {left : List Int} (h7 : OwnI w7 wa.heap.size lv left) (hap : ov.ownBlock ≠ lv.ownBlock ∨ ov.ownBlock = none) (hg : w7.grownBy w8 ov.ownBlock) : OwnI w8 wa.heap.size lv left := by
  refine World.ownsRow.kept h7 hg ?_
  rcases hap with h | h
  · exact .inr (Ne.symm h)
  · rw [h]
    cases hq : lv.ownBlock with
    | none => exact .inl rfl
    | some g => exact .inr (by simp)
theorem planRel_9 {w wa wr w7 w8 w9 : World} {mb : Nat} {ps : List Pat} {set : List Tr} {lv ov lv' v8 : Value} {left out : List Int} {K K' : List ByteArray} {n : Nat} (hR : PlanRel w wa wr (mb + 1) mb ps set lv ov left out K)
    (hrs : wr.heap.size ≤ w7.heap.size) (hl7 : OwnI w7 wa.heap.size lv left) (ho7 : OwnI w7 wa.heap.size ov out) (hk7 : w7.heap[mb + 1]? = some (.cells #[.map (some mb)] 71)) (hx7 : Ext wa w7) (hm7 : MapAt Try.prog 9 w7 mb (boolsS K'))
    (h8 : w8.ownsRow wa.heap.size 3 1 v8 (out.length + 1) (out.flatMap encI ++ [.int .i64 (n : Int)])) (hg8 : w7.grownBy w8 ov.ownBlock) (hb8 : v8.ownBlock = ov.ownBlock ∨ v8.ownBlock = some w7.heap.size)
    (h9 : OwnI w9 wa.heap.size lv' (left.filter fun k => !decide (k = (n : Int)))) (hg9 : w8.grownBy w9 lv.ownBlock) (hb9 : lv'.ownBlock = lv.ownBlock)
    (hlen : (left.filter fun k => !decide (k = (n : Int))).length + 1 = left.length) (hgo : orderGo ps set (left.filter fun k => !decide (k = (n : Int))).length (left.filter fun k => !decide (k = (n : Int))) K' (out ++ [(n : Int)]) = planOrder ps set) :
    PlanRel w wa w9 (mb + 1) mb ps set lv' v8 (left.filter fun k => !decide (k = (n : Int))) (out ++ [(n : Int)]) K' := by
  have hl8 := planRel_8 hl7 hR.apart hg8
  have hne : v8.ownBlock ≠ lv.ownBlock := by
    rcases hb8 with q | q
    · rcases hR.apart with h | h
      · rw [q]; exact h
      · rw [q, h]
        intro e
        have h1 : v8.ownBlock = none := q.trans h
        obtain ⟨_, ⟨_, hz⟩ | ⟨g, cap, cur, rfl, _⟩⟩ := h8
        · omega
        · simp [Value.ownBlock] at h1
    · rw [q]
      intro e
      have := (World.ownsRow.lt hl7 _ e.symm).2
      omega
  have hk8 : w8.heap[mb + 1]? = some (.cells #[.map (some mb)] 71) := keep_other ho7 (Ext.refl w7) hg8 hk7 (by decide)
  have hm8 : MapAt Try.prog 9 w8 mb (boolsS K') := hm7.same (map_grown ho7 hg8 hm7.isMap)
  have hx8 : Ext wa w8 := hx7.grown hg8 hx7.size (fun q hq => (World.ownsRow.lt ho7 q hq).1)
  refine ⟨h9, ?_, hm8.same (map_grown hl8 hg9 hm8.isMap), keep_other hl8 (Ext.refl w8) hg9 hk8 (by decide), hx8.grown hg9 hx8.size (fun q hq => (World.ownsRow.lt hl8 q hq).1), .inl (by rw [hb9]; exact hne), hR.nodup.filter _, fun i hi => hR.bound i (List.mem_filter.1 hi).1, ?_, hgo⟩
  · have := World.ownsRow.kept h8 hg9 (.inr hne)
    unfold OwnI
    rw [List.length_append, List.flatMap_append]
    exact this
  · have := hR.small
    rw [List.length_append, List.length_singleton]
    omega

theorem ibox_at {w7 w8 W : World} {bi : Nat} {n : Int} {u lv : Option Nat} (h : w7.heap[bi]? = some (.cells #[.int .i64 n] 3)) (h8 : w7.grownBy w8 u) (hW : w8.grownBy W lv) (hu : u ≠ some bi) (hl : lv ≠ some bi) : W.cell? ⟨bi, 0, none⟩ = some (.int .i64 n) := by
  have h1 : w8.heap[bi]? = some (.cells #[.int .i64 n] 3) := (h8.block bi (Array.getElem?_eq_some_iff.1 h).1 (Ne.symm hu)).trans h
  have h2 : W.heap[bi]? = some (.cells #[.int .i64 n] 3) := (hW.block bi (Array.getElem?_eq_some_iff.1 h1).1 (Ne.symm hl)).trans h1
  exact cells_at h2 0


theorem planOrder_ok (vset vv vp : Value) (set : List Tr) (q : Qu) (w : World) (hs : Reads encTr w vset set) (hp : Reads encPat w vp q.parts) (hv : Reads encS w vv q.vars) (hE : setErr set = none) (hA : askErr q = none) :
    Calls Try.prog 8 #[vset, vQu vv vp q] w fun e w' => ∃ p c, e = .returned (.tuple #[.slice p (planOrder q.parts set).length c, .nilIface]) ∧ Reads encI w' (.slice p (planOrder q.parts set).length c) (planOrder q.parts set) ∧ Ext w w' := by
  obtain ⟨i0, hi, hz0, hz1, hz2⟩ : ∃ i, Try.prog.info? 3 = some i ∧ i.zero = some (.int .i64 0) ∧ i.size = 1 ∧ i.bytes = 8 := ⟨_, rfl, rfl, rfl, rfl⟩
  have hmm := @run_makeMap Try.prog
  have h1 := fun W (hW : Ext w W) => sorted_any vset set W (hs.ext hW)
  have h2 := fun W (hW : Ext w W) => askCheck_any vv vp q W (hp.ext hW) (hv.ext hW)
  rw [hE] at h1
  rw [hA] at h2
  dsimp only [errV] at h1 h2
  obtain ⟨hl6, hl0, hpe⟩ := askErr_none hA
  have hgood : ∀ p ∈ q.parts, p.s.var.size ≤ maxLen ∧ p.p.var.size ≤ maxLen ∧ p.o.var.size ≤ maxLen := fun p hp => by
    have := patErr_short (partsErr_all hpe p hp)
    unfold maxLen; omega
  have hsl : set.length ≤ 100000 := by have := ((setErr_none_iff set).1 hE).1; omega
  obtain ⟨a0, cs, rfl⟩ := hs.slice
  obtain ⟨av, cv, rfl⟩ := hv.slice
  obtain ⟨ap, cp, rfl⟩ := hp.slice
  have hxb := ((Ext.refl w).alloc (.cells #[.slice a0 set.length cs] 22)).alloc (.cells #[.slice av q.vars.length cv, .slice ap q.parts.length cp, .string q.order, .bool q.down, .bool q.dist, .int .i64 q.limit] 26)
  have hb1 := heap_ext ((Ext.refl _).alloc (.cells #[.slice av q.vars.length cv, .slice ap q.parts.length cp, .string q.order, .bool q.down, .bool q.dist, .int .i64 q.limit] 26)) (alloc_heap_new w (.cells #[.slice a0 set.length cs] 22))
  have hb2 := alloc_heap_new (w.alloc (.cells #[.slice a0 set.length cs] 22)) (.cells #[.slice av q.vars.length cv, .slice ap q.parts.length cp, .string q.order, .bool q.down, .bool q.dist, .int .i64 q.limit] 26)
  rw [World.size_alloc] at hb2
  have hpl : ∀ W mb bk K, Ext w W → W.heap[w.heap.size]? = some (.cells #[.slice a0 set.length cs] 22) → W.heap[w.heap.size + 1]? = some (.cells #[.slice av q.vars.length cv, .slice ap q.parts.length cp, .string q.order, .bool q.down, .bool q.dist, .int .i64 q.limit] 26) →
      W.heap[bk]? = some (.cells #[.map (some mb)] 71) → MapAt Try.prog 9 W mb (boolsS K) → PlanAt W (w.heap.size + 1) bk w.heap.size mb (.slice av q.vars.length cv) ap cp q (.slice a0 set.length cs) set K := fun W mb bk K hW x1 x2 x3 x4 =>
    ⟨x2, x3, x1, hp.ext hW, hs.ext hW, x4, hgood, hsl⟩
  have hpc := hp
  obtain ⟨_, cp', hval, hcap, hmax, hcells0⟩ := hpc
  cases hval
  unfold maxLen at hmax
  obtain ⟨b, off, rfl, hc0⟩ := hcells0 (fun e => hl0 (by rw [e]; rfl))
  have hcells := Lib.hid hc0
  have HH := Lib.hid (And.intro h1 (And.intro h2 (And.intro hpl hgood)))
  have HT := Lib.hid (And.intro hi (And.intro hz0 (And.intro hz1 hz2)))
  clear h1 h2 hpl hgood hs hp hv hE hA hpe hc0 hi hz0 hz1 hz2 hsl
  obtain ⟨vars, parts, order, down, dist, limit⟩ := q
  dsimp only at *
  go_enter Try.func8, Try.ntmps8
  go_upto_region 1 with fail
  generalize hwa : World.alloc (World.alloc w _) _ = wa at hxb hb1 hb2 ⊢
  have A0 := fun W (hW : Ext wa W) => cells_at (heap_ext hW hb2)
  have A1 := cells_at hb1
  clear hwa
  go_upto_region 7 with (first | (go_at_call 17; refine (HH.out.1 _ hxb).mono ?_; rintro e w1 ⟨rfl, hx1⟩; have A2 := A0 _ hx1) | (go_at_call 23; refine (HH.out.2.1 _ (hxb.trans hx1)).mono ?_; rintro e w2 ⟨rfl, hx2⟩))
  have hxa2 := hx1.trans hx2
  clear A1 A2
  have A3 := A0 _ hxa2
  go_wp2
  clear A3
  go_loopw [8, 28] (fun lv jv wr => ∃ j : Nat, jv = .int .i64 j ∧ j ≤ parts.length ∧ OwnI wr wa.heap.size lv (rangeI j) ∧ Ext wa wr) (fun _ jv _ => parts.length - (intOf jv).toNat)
  case atStart => exact ⟨0, rfl, Nat.zero_le _, World.ownsRow_nil _ _ _ _, hxa2⟩
  case round =>
    obtain ⟨j, rfl, hj, hown, hx⟩ := hrel
    clear hxa2
    by_cases hlt : j < parts.length
    · have hlj := rangeI_len j
      have HO := Lib.hid (own_ext hown ((Ext.refl wr).alloc (.cells #[.int .i64 (j : Int)] 3)))
      have hx4 := hx.alloc (.cells #[.int .i64 (j : Int)] 3)
      clear A0
      go_wp2_with (at_builtin; refine wpList_append_own _ rfl _ _ 34 rfl wa.heap.size 3 i0 (.int .i64 0) 1 8 Try.underlying34 HT.out.1 HT.out.2.1 HT.out.2.2.1 HT.out.2.2.2 rfl (by decide) _ _ _ rfl HO.out ⟨wr.heap.size, 0, none⟩ 1 1 [.int .i64 (j : Int)] rfl rfl (cell_one_new _ _ _) (by simp [Value.oneCell']) (by unfold maxLen; omega) (by omega) hx4.size ?_; intro v3 w3 hown3 hgrow3 _; have HG := Lib.hid (And.intro hown3 hgrow3); clear hown3 hgrow3)
      go_roundw
      case rel =>
        refine ⟨j + 1, vi (by omega), hlt, ?_, hx4.grown HG.out.2 hx4.size (fun q hq => (World.ownsRow.lt HO.out q hq).1)⟩
        rw [rangeI_succ]
        unfold OwnI
        rw [List.length_append, List.flatMap_append]
        exact HG.out.1
      case measure => simp [intOf]; omega
    · have hjl : j = parts.length := by omega
      subst hjl
      have hst : PlanRel w wa ((wr.alloc (.map #[] 0)).alloc (.cells #[.map (some wr.heap.size)] 71)) (wr.heap.size + 1) wr.heap.size parts set _ (.slice none 0 0) (rangeI parts.length) [] [] := planRel_start hown hx hl6
      have hwm : wa.heap.size ≤ wr.heap.size := hx.size
      go_upto_region 14 with fail
      obtain ⟨p0, c0, hp0⟩ := sliceOf_own hown
      clear hown hx
      generalize hW : World.alloc (World.alloc wr _) _ = W0 at hst ⊢
      generalize wr.heap.size = mb at hst hwm ⊢
      clear hW A0
      have HS := Lib.hid hst
      clear hst
      go_wp2
      go_loopw [8, 9] (fun lv ov wr => ∃ (left out : List Int) (K : List ByteArray), (∃ p c, lv = .slice p left.length c) ∧ Hid (PlanRel w wa wr (mb + 1) mb parts set lv ov left out K)) (fun lv _ _ => lenV lv)
      case atStart => exact ⟨rangeI parts.length, [], [], ⟨p0, c0, hp0⟩, HS⟩
      case round =>
        obtain ⟨left, out, K, ⟨pl, cl, rfl⟩, HR⟩ := hrel
        clear HS hp0
        by_cases hne : left = []
        · subst hne
          have hgo := HR.out.goes
          simp only [List.length_nil] at hgo
          obtain ⟨p, c, hov⟩ := sliceOf_own HR.out.oown
          have HG := Lib.hid (And.intro hgo hov)
          clear hgo hov
          go_wp2
          go_ret2
          have e : planOrder parts set = out := HG.out.1.symm
          rw [e]
          refine ⟨p, c, by rw [← HG.out.2]; rfl, ?_, hxb.trans HR.out.ext⟩
          have := HR.out.oown
          rw [HG.out.2] at this
          exact Reads.of_owns this
        · have hpos : (0 : Int) < (left.length : Int) := by
            have : 0 < left.length := List.length_pos_iff.2 hne
            omega
          have hmem := minL_mem (cmpPlan parts set K) left hne
          obtain ⟨n, hin, hnl⟩ := HR.out.bound _ hmem
          have hx := HR.out.ext
          have hpa := HH.out.2.2.1 wr mb (mb + 1) K (hxb.trans hx) (heap_ext hx hb1) (heap_ext hx hb2) HR.out.kbox HR.out.known
          have hmin : ∀ W, Ext wr W → Calls Try.prog 24 #[.slice pl left.length cl, .func (.func 25) #[] #[.pointer (some ⟨w.heap.size + 1, 0, none⟩), .pointer (some ⟨mb + 1, 0, none⟩), .pointer (some ⟨w.heap.size, 0, none⟩)]] W fun e w' => e = .returned (.int .i64 n) ∧ Ext W w' := fun W hW => by
            have := minFunc_int (.slice pl left.length cl) left W 25 #[.pointer (some ⟨w.heap.size + 1, 0, none⟩), .pointer (some ⟨mb + 1, 0, none⟩), .pointer (some ⟨w.heap.size, 0, none⟩)] (cmpPlan parts set K) (Reads.of_owns (own_ext HR.out.lown hW)) hne (enters_of Try.func25 (by kernel_rfl) rfl) (fun V i k h1 h2 hV => by
              obtain ⟨ni, rfl, hi⟩ := HR.out.bound i h1
              obtain ⟨nk, rfl, hk⟩ := HR.out.bound k h2
              exact planCmp_any ((hpa.ext hW).ext hV) ni nk hi hk)
            rw [hin] at this
            exact this
          have hlft := filter_out HR.out.nodup hmem
          rw [hin] at hlft hmem
          have hgo := HR.out.goes
          have hlen := hlft.length_eq
          simp only [List.length_cons] at hlen
          have hkn : know K (parts.getD (n : Int).toNat default) = know K parts[n] := by rw [Int.toNat_natCast, getD_at hnl]
          have hgo2 : orderGo parts set (left.filter fun k => !decide (k = (n : Int))).length (left.filter fun k => !decide (k = (n : Int))) (know K parts[n]) (out ++ [(n : Int)]) = planOrder parts set := by
            rw [← hgo, ← hlen]
            show _ = orderGo parts set ((left.filter fun k => !decide (k = (n : Int))).length + 1) left K out
            rw [orderGo, hin, hkn]
          have hpg := HH.out.2.2.2 parts[n] (List.getElem_mem hnl)
          have HM := Lib.hid hmin
          have HG := Lib.hid (And.intro hlft (And.intro hmem (And.intro hgo2 hlen)))
          clear hmin hlft hmem hgo2 hlen hgo hpa hkn hin
          go_upto_region 16 with (go_at_call 24; refine (HM.out _ (Ext.refl wr)).mono ?_; rintro e w4 ⟨rfl, hx4⟩)
          have hx5 := hx4.alloc (.cells #[.int .i64 (n : Int)] 3)
          have hbi := alloc_heap_new w4 (.cells #[.int .i64 (n : Int)] 3)
          have hbil : wr.heap.size ≤ w4.heap.size := hx4.size
          generalize hW5 : World.alloc w4 _ = w5 at hx5 hbi ⊢
          generalize w4.heap.size = bi at hbi hbil ⊢
          clear hW5 hx4
          have hxw := (hxb.trans hx).trans hx5
          obtain ⟨q0, q1, q2, q3, q4, q5, q6, q7, q8, q9, q10, q11⟩ := Pat.cells hcells.out hnl
          have d0 := hxw.cell q0
          have d1 := hxw.cell q1
          have d2 := hxw.cell q2
          have d3 := hxw.cell q3
          have d4 := hxw.cell q4
          have d5 := hxw.cell q5
          have d6 := hxw.cell q6
          have d7 := hxw.cell q7
          have d8 := hxw.cell q8
          have d9 := hxw.cell q9
          have d10 := hxw.cell q10
          have d11 := hxw.cell q11
          clear q0 q1 q2 q3 q4 q5 q6 q7 q8 q9 q10 q11
          have A5 := cells_at (heap_ext (hx.trans hx5) hb2)
          have A6 := cells_at hbi
          obtain ⟨f, hf⟩ : ∃ f, f = (parts[n]).nth := ⟨_, rfl⟩
          have hkf : know K parts[n] = knowTo f K 3 := by rw [hf]; rfl
          have h0 : f 0 = parts[n].s := by rw [hf]; rfl
          have h1 : f 1 = parts[n].p := by rw [hf]; rfl
          have h2 : f 2 = parts[n].o := by rw [hf]; rfl
          have hslots := fun W => slots_any parts[n] W
          have HG2 := Lib.hid hkf
          clear hf hkf
          have hnI : (n : Int) < (parts.length : Int) := by omega
          have hG3 := HG.out.2.2.1
          rw [HG2.out] at hG3
          have HG3 := Lib.hid hG3
          clear hG3 HG2
          generalize hpn : parts[n] = p at d0 d1 d2 d3 d4 d5 d6 d7 d8 d9 d10 d11 h0 h1 h2 hslots hpg
          clear hpn
          obtain ⟨⟨v1, ⟨k1, s1, g1⟩⟩, ⟨v2, ⟨k2, s2, g2⟩⟩, ⟨v3, ⟨k3, s3, g3⟩⟩⟩ := p
          try dsimp only at d0 d1 d2 d3 d4 d5 d6 d7 d8 d9 d10 d11
          try dsimp only at h0 h1 h2 hpg
          try dsimp only at hslots
          have HF := Lib.hid (And.intro h0 (And.intro h1 (And.intro h2 (And.intro hslots hpg))))
          clear h0 h1 h2 hslots hpg
          go_wp2_with (go_at_call 30; refine (HF.out.2.2.2.1 _).mono ?_; rintro e w6 ⟨rfl, hx6⟩)
          clear A5 A6 d0 d1 d2 d3 d4 d5 d6 d7 d8 d9 d10 d11
          have hx56 := hx5.trans hx6
          have hs6 := hx56.size
          have hm6 := HR.out.known.ext hx56
          go_loopw [49] (fun jv wr => ∃ (j : Nat) (ji : Int), jv = .int .i64 ji ∧ ji = (j : Int) ∧ j ≤ 3 ∧ MapAt Try.prog 9 wr mb (boolsS (knowTo f K j)) ∧ w6.grownBy wr (some mb)) (fun jv _ => 3 - (intOf jv).toNat)
          case atStart => exact ⟨0, 0, rfl, rfl, by omega, hm6, grown_of_ext (Ext.refl _) _⟩
          case round =>
            obtain ⟨j, ji, rfl, hji, hj, hmap, hg⟩ := hrel
            have hjj : j = 0 ∨ j = 1 ∨ j = 2 ∨ j = 3 := by omega
            rcases hjj with rfl | rfl | rfl | rfl
            · obtain rfl : ji = 0 := by omega
              clear hji hj
              have hfj : f 0 = ⟨v1, ⟨k1, s1, g1⟩⟩ := by exact HF.out.1
              have hkn : knowTo f K (0 + 1) = addK (knowTo f K 0) v1 := by
                show addK (knowTo f K 0) (f 0).var = _
                rw [hfj]
              have hxa := (Ext.refl wr).alloc (.cells #[.string v1, .int .i64 k1, .string s1, .string g1] 30)
              have A7 := cells_at (heap_ext hxa ((hg.block (mb + 1) (Nat.lt_of_lt_of_le (Array.getElem?_eq_some_iff.1 HR.out.kbox).1 hs6) (fun e => by cases e)).trans (heap_ext hx56 HR.out.kbox)))
              obtain ⟨w3, hrun3, hm3, ht3⟩ := know_put (hmap.ext hxa) v1 HF.out.2.2.2.2.1
              have hg3 := grown_trans (grown_trans hg (grown_of_ext hxa _)) (grown_turned ht3)
              have HJ := Lib.hid (And.intro hkn (And.intro hm3 hg3))
              clear hkn hm3 hg3 ht3 hxa hfj hmap hg
              cases hE : (v1).toList.isEmpty with
              | true =>
                have h0 : decide ((v1).size ≠ 0) = false := by
                  have : (v1).size = 0 := by rw [isEmpty_toList] at hE; simpa using hE
                  simp [this]
                rw [h0] at hrun3
                clear h0
                go_wp2
                go_roundw
                case rel => exact ⟨0 + 1, _, rfl, rfl, by omega, by rw [HJ.out.1]; exact HJ.out.2.1, HJ.out.2.2⟩
                case measure => simp [intOf]
              | false =>
                have h0 : decide ((v1).size ≠ 0) = true := by
                  have : (v1).size ≠ 0 := fun h => by rw [isEmpty_toList] at hE; simp [h] at hE
                  simp [this]
                rw [h0] at hrun3
                clear h0
                go_wp2
                go_roundw
                case rel => exact ⟨0 + 1, _, rfl, rfl, by omega, by rw [HJ.out.1]; exact HJ.out.2.1, HJ.out.2.2⟩
                case measure => simp [intOf]
            · obtain rfl : ji = 1 := by omega
              clear hji hj
              have hfj : f 1 = ⟨v2, ⟨k2, s2, g2⟩⟩ := by exact HF.out.2.1
              have hkn : knowTo f K (1 + 1) = addK (knowTo f K 1) v2 := by
                show addK (knowTo f K 1) (f 1).var = _
                rw [hfj]
              have hxa := (Ext.refl wr).alloc (.cells #[.string v2, .int .i64 k2, .string s2, .string g2] 30)
              have A7 := cells_at (heap_ext hxa ((hg.block (mb + 1) (Nat.lt_of_lt_of_le (Array.getElem?_eq_some_iff.1 HR.out.kbox).1 hs6) (fun e => by cases e)).trans (heap_ext hx56 HR.out.kbox)))
              obtain ⟨w3, hrun3, hm3, ht3⟩ := know_put (hmap.ext hxa) v2 HF.out.2.2.2.2.2.1
              have hg3 := grown_trans (grown_trans hg (grown_of_ext hxa _)) (grown_turned ht3)
              have HJ := Lib.hid (And.intro hkn (And.intro hm3 hg3))
              clear hkn hm3 hg3 ht3 hxa hfj hmap hg
              cases hE : (v2).toList.isEmpty with
              | true =>
                have h0 : decide ((v2).size ≠ 0) = false := by
                  have : (v2).size = 0 := by rw [isEmpty_toList] at hE; simpa using hE
                  simp [this]
                rw [h0] at hrun3
                clear h0
                go_wp2
                go_roundw
                case rel => exact ⟨1 + 1, _, rfl, rfl, by omega, by rw [HJ.out.1]; exact HJ.out.2.1, HJ.out.2.2⟩
                case measure => simp [intOf]
              | false =>
                have h0 : decide ((v2).size ≠ 0) = true := by
                  have : (v2).size ≠ 0 := fun h => by rw [isEmpty_toList] at hE; simp [h] at hE
                  simp [this]
                rw [h0] at hrun3
                clear h0
                go_wp2
                go_roundw
                case rel => exact ⟨1 + 1, _, rfl, rfl, by omega, by rw [HJ.out.1]; exact HJ.out.2.1, HJ.out.2.2⟩
                case measure => simp [intOf]
            · obtain rfl : ji = 2 := by omega
              clear hji hj
              have hfj : f 2 = ⟨v3, ⟨k3, s3, g3⟩⟩ := by exact HF.out.2.2.1
              have hkn : knowTo f K (2 + 1) = addK (knowTo f K 2) v3 := by
                show addK (knowTo f K 2) (f 2).var = _
                rw [hfj]
              have hxa := (Ext.refl wr).alloc (.cells #[.string v3, .int .i64 k3, .string s3, .string g3] 30)
              have A7 := cells_at (heap_ext hxa ((hg.block (mb + 1) (Nat.lt_of_lt_of_le (Array.getElem?_eq_some_iff.1 HR.out.kbox).1 hs6) (fun e => by cases e)).trans (heap_ext hx56 HR.out.kbox)))
              obtain ⟨w3, hrun3, hm3, ht3⟩ := know_put (hmap.ext hxa) v3 HF.out.2.2.2.2.2.2
              have hg3 := grown_trans (grown_trans hg (grown_of_ext hxa _)) (grown_turned ht3)
              have HJ := Lib.hid (And.intro hkn (And.intro hm3 hg3))
              clear hkn hm3 hg3 ht3 hxa hfj hmap hg
              cases hE : (v3).toList.isEmpty with
              | true =>
                have h0 : decide ((v3).size ≠ 0) = false := by
                  have : (v3).size = 0 := by rw [isEmpty_toList] at hE; simpa using hE
                  simp [this]
                rw [h0] at hrun3
                clear h0
                go_wp2
                go_roundw
                case rel => exact ⟨2 + 1, _, rfl, rfl, by omega, by rw [HJ.out.1]; exact HJ.out.2.1, HJ.out.2.2⟩
                case measure => simp [intOf]
              | false =>
                have h0 : decide ((v3).size ≠ 0) = true := by
                  have : (v3).size ≠ 0 := fun h => by rw [isEmpty_toList] at hE; simp [h] at hE
                  simp [this]
                rw [h0] at hrun3
                clear h0
                go_wp2
                go_roundw
                case rel => exact ⟨2 + 1, _, rfl, rfl, by omega, by rw [HJ.out.1]; exact HJ.out.2.1, HJ.out.2.2⟩
                case measure => simp [intOf]
            · obtain rfl : ji = 3 := by omega
              clear hji hj
              obtain ⟨hl7, ho7, hk7, hx7, hs7⟩ := planRel_7 HR.out hwm hx56 hg
              have hbi7 : wr.heap[bi]? = some (.cells #[.int .i64 (n : Int)] 3) := by
                rw [hg.block bi (Nat.lt_of_lt_of_le (Array.getElem?_eq_some_iff.1 (heap_ext hx6 hbi)).1 (Nat.le_refl _)) (fun e => by
                  obtain ⟨es, c, hq⟩ := hm6.isMap
                  cases e
                  rw [heap_ext hx6 hbi] at hq
                  cases hq)]
                exact heap_ext hx6 hbi
              have A8 := cells_at hbi7
              have hxa := (Ext.refl wr).alloc (.cells #[.int .i64 (n : Int)] 3)
              have hl7a := own_ext hl7 hxa
              have ho7a := own_ext ho7 hxa
              have hneb : ∀ g, (Value.slice pl left.length cl).ownBlock = some g → g ≠ bi := fun g e q => by
                have := (World.ownsRow.lt HR.out.lown g e).2
                omega
              have hneo : u9.ownBlock ≠ some bi := fun e => by
                have := (World.ownsRow.lt HR.out.oown bi e).2
                omega
              have hsm := HR.out.small
              have HX := Lib.hid (And.intro hl7a (And.intro ho7a (And.intro (heap_ext hxa hk7) (And.intro (hx7.trans hxa) (And.intro (hmap.ext hxa) (And.intro (heap_ext hxa hbi7) (And.intro hneb hneo)))))))
              have hrs : _ ≤ (wr.alloc (.cells #[.int .i64 (n : Int)] 3)).heap.size := Nat.le_trans hs6 (Nat.le_trans hs7 hxa.size)
              clear hl7 ho7 hk7 hbi7 hl7a ho7a hneb hneo hx7 hmap hm6
              go_wp2_with (first | (at_builtin; refine wpList_append_apart rfl _ _ 34 rfl wa.heap.size 3 i0 (.int .i64 0) 1 8 Try.underlying34 HT.out.1 HT.out.2.1 HT.out.2.2.1 HT.out.2.2.2 rfl (by decide) _ _ _ rfl HX.out.2.1 ⟨wr.heap.size, 0, none⟩ 1 1 [.int .i64 (n : Int)] rfl rfl (cell_one_new _ _ _) (by simp [Value.oneCell']) (by unfold maxLen; omega) (by omega) HX.out.2.2.2.1.size ?_; intro v8 w8 hown8 hgrow8 hap8; have HG8 := Lib.hid (And.intro hown8 (And.intro hgrow8 hap8)); clear hown8 hgrow8 hap8) | (go_at_call 31; refine (deleteFunc_intG (.slice pl left.length cl) left w8 wa.heap.size 32 #[.pointer (some ⟨bi, 0, none⟩)] (fun k => decide (k = (n : Int))) (planRel_8 HX.out.1 HR.out.apart HG8.out.2.1) (enters_of Try.func32 (by kernel_rfl) rfl) (fun W x _ hW => plan2_any x n bi W (ibox_at HX.out.2.2.2.2.2.1 HG8.out.2.1 hW HX.out.2.2.2.2.2.2.2 (fun e => HX.out.2.2.2.2.2.2.1 bi e rfl)))).mono ?_; rintro e w9 ⟨v9, rfl, hown9, hgrow9, hb9⟩; obtain ⟨p9, c9, rfl⟩ := sliceOf_own hown9; have HG9 := Lib.hid (And.intro hown9 (And.intro hgrow9 hb9)); clear hown9 hgrow9 hb9))
              go_roundw
              case rel =>
                exact ⟨_, _, _, ⟨p9, c9, rfl⟩, Lib.hid (planRel_9 HR.out hrs HX.out.1 HX.out.2.1 HX.out.2.2.1 HX.out.2.2.2.1 HX.out.2.2.2.2.1 HG8.out.1 HG8.out.2.1 HG8.out.2.2 HG9.out.1 HG9.out.2.1 HG9.out.2.2 HG.out.2.2.2 HG3.out)⟩
              case measure =>
                have := HG.out.2.2.2
                show (left.filter fun k => !decide (k = (n : Int))).length < left.length
                omega
end Go.Proofs.Ytmobdmljbbckiaa
