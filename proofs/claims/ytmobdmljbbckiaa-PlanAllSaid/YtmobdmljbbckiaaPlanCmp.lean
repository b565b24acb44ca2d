/- plan.Order's comparison. -/
import Derived.Test.YtmobdmljbbckiaaPlanTerms
import Derived.Test.YtmobdmljbbckiaaMatchOf
import Derived.Test.YtmobdmljbbckiaaRegionAny
import Derived.Test.YtmobdmljbbckiaaCkCompare
import Derived.Test.YtmobdmljbbckiaaOwnSet
namespace Go.Proofs.Ytmobdmljbbckiaa
open Go.RowKit Go.Maps
set_option maxHeartbeats 3200000
set_option maxRecDepth 100000

/-- what a plan's comparison looks at -/
structure PlanAt (w : World) (bq bk bs mb : Nat) (vv : Value) (ap : Option Addr) (cp : Nat) (q : Qu) (vset : Value) (set : List Tr) (K : List ByteArray) : Prop where
  qbox : w.heap[bq]? = some (.cells #[vv, .slice ap q.parts.length cp, .string q.order, .bool q.down, .bool q.dist, .int .i64 q.limit] 26)
  kbox : w.heap[bk]? = some (.cells #[.map (some mb)] 71)
  sbox : w.heap[bs]? = some (.cells #[vset] 22)
  parts : Reads encPat w (.slice ap q.parts.length cp) q.parts
  sread : Reads encTr w vset set
  known : MapAt Try.prog 9 w mb (boolsS K)
  good : ∀ p ∈ q.parts, p.s.var.size ≤ maxLen ∧ p.p.var.size ≤ maxLen ∧ p.o.var.size ≤ maxLen
  small : set.length ≤ 100000
theorem PlanAt.ext {w w' : World} {bq bk bs mb : Nat} {vv : Value} {ap : Option Addr} {cp : Nat} {q : Qu} {vset : Value} {set : List Tr} {K : List ByteArray} (h : PlanAt w bq bk bs mb vv ap cp q vset set K) (hx : Ext w w') : PlanAt w' bq bk bs mb vv ap cp q vset set K :=
  ⟨heap_ext hx h.qbox, heap_ext hx h.kbox, heap_ext hx h.sbox, h.parts.ext hx, h.sread.ext hx, h.known.ext hx, h.good, h.small⟩

def planR (na nb : Nat) (x y : Int) (i : Nat) (v : Value) (W : World) : Prop :=
  match i with
  | 9 => ∃ p c, v = .slice p na c
  | 10 => v = .int .i64 na
  | 13 => ∃ p c, v = .slice p nb c
  | 14 => v = .int .i64 nb
  | 15 => v = .int .i64 y
  | 16 => ∃ b, v = .slice (some ⟨b, 0, none⟩) 2 2 ∧ W.cell? ⟨b, 0, none⟩ = some (.int .i64 x) ∧ W.cell? ⟨b, 1, none⟩ = some (.int .i64 y)
  | 17 => v = .int .i64 (orI [x, y])
  | _ => True
theorem planR_ext (na nb : Nat) (x y : Int) (i : Nat) (v : Value) (w w' : World) (h : planR na nb x y i v w) (hx : Ext w w') : planR na nb x y i v w' := by
  unfold planR at *
  split at h <;> first | exact h | (obtain ⟨b, h1, h2, h3⟩ := h; exact ⟨b, h1, hx.cell h2, hx.cell h3⟩) | trivial

theorem planCmp_any {wb : World} {bq bk bs mb : Nat} {vv : Value} {ap : Option Addr} {cp : Nat} {q : Qu} {vset : Value} {set : List Tr} {K : List ByteArray} (h : PlanAt wb bq bk bs mb vv ap cp q vset set K) (i k : Nat) (hi : i < q.parts.length) (hk : k < q.parts.length) :
    Calls Try.prog 25 #[.int .i64 i, .int .i64 k, .pointer (some ⟨bq, 0, none⟩), .pointer (some ⟨bk, 0, none⟩), .pointer (some ⟨bs, 0, none⟩)] wb fun e wb' => e = .returned (.int .i64 (cmpPlan q.parts set K i k)) ∧ Ext wb wb' := by
  have hR : cmpPlan q.parts set K i k = orI [cmpI (termsN q.parts[k] K) (termsN q.parts[i] K), cmpI (ofN set q.parts[i]) (ofN set q.parts[k])] := by
    unfold cmpPlan
    rw [Int.toNat_natCast, Int.toNat_natCast, getD_at hi, getD_at hk]
  have ta := fun W (hW : Ext wb W) => planTerms_any q.parts[i] mb K W (h.known.ext hW) (h.good _ (List.getElem_mem hi))
  have tb := fun W (hW : Ext wb W) => planTerms_any q.parts[k] mb K W (h.known.ext hW) (h.good _ (List.getElem_mem hk))
  have oa : ∀ W, Ext wb W → Calls Try.prog 29 #[vset, vPat q.parts[i]] W fun e wb' => ∃ p c, e = .returned (.slice p (ofN set q.parts[i]) c) ∧ Ext W wb' := fun W hW => (of_any vset set q.parts[i] W (h.sread.ext hW) h.small).mono fun e wb' ⟨v, h1, h2, h3⟩ => by
    obtain ⟨p, c, rfl⟩ := sliceOf_own h2
    exact ⟨p, c, h1, h3⟩
  have ob : ∀ W, Ext wb W → Calls Try.prog 29 #[vset, vPat q.parts[k]] W fun e wb' => ∃ p c, e = .returned (.slice p (ofN set q.parts[k]) c) ∧ Ext W wb' := fun W hW => (of_any vset set q.parts[k] W (h.sread.ext hW) h.small).mono fun e wb' ⟨v, h1, h2, h3⟩ => by
    obtain ⟨p, c, rfl⟩ := sliceOf_own h2
    exact ⟨p, c, h1, h3⟩
  obtain ⟨_, cp', hval, hcap, hmax, hcells⟩ := h.parts
  cases hval
  unfold maxLen at hmax
  obtain ⟨b, off, rfl, hc⟩ := hcells (fun e => by rw [e] at hi; exact absurd hi (Nat.not_lt_zero _))
  obtain ⟨q0, q1, q2, q3, q4, q5, q6, q7, q8, q9, q10, q11⟩ := Pat.cells hc hi
  obtain ⟨r0, r1, r2, r3, r4, r5, r6, r7, r8, r9, r10, r11⟩ := Pat.cells hc hk
  have hqb := h.qbox
  have hkb := h.kbox
  have hsb := h.sbox
  have hsl := h.sread.slice
  rw [hR]
  generalize q.parts[i] = pa at ta oa q0 q1 q2 q3 q4 q5 q6 q7 q8 q9 q10 q11 ⊢
  generalize q.parts[k] = pb at tb ob r0 r1 r2 r3 r4 r5 r6 r7 r8 r9 r10 r11 ⊢
  obtain ⟨asl, csl, rfl⟩ := hsl
  generalize hx : (termsN pa K : Int) = xa at ta ⊢
  generalize hy : (termsN pb K : Int) = xb at tb ⊢
  generalize ofN set pa = na at oa ⊢
  generalize ofN set pb = nb at ob ⊢
  obtain ⟨⟨av1, ⟨ak1, as1, ag1⟩⟩, ⟨av2, ⟨ak2, as2, ag2⟩⟩, ⟨av3, ⟨ak3, as3, ag3⟩⟩⟩ := pa
  obtain ⟨⟨bv1, ⟨bk1, bs1, bg1⟩⟩, ⟨bv2, ⟨bk2, bs2, bg2⟩⟩, ⟨bv3, ⟨bk3, bs3, bg3⟩⟩⟩ := pb
  dsimp only at *
  have HC := Lib.hid (And.intro ta (And.intro tb (And.intro oa ob)))
  clear ta tb oa ob h hcells hc hR hx hy
  have D := Later.cells hqb
  have A0 := Later.cell q0
  have A1 := Later.cell q1
  have A2 := Later.cell q2
  have A3 := Later.cell q3
  have A4 := Later.cell q4
  have A5 := Later.cell q5
  have A6 := Later.cell q6
  have A7 := Later.cell q7
  have A8 := Later.cell q8
  have A9 := Later.cell q9
  have A10 := Later.cell q10
  have A11 := Later.cell q11
  have B0 := Later.cell r0
  have B1 := Later.cell r1
  have B2 := Later.cell r2
  have B3 := Later.cell r3
  have B4 := Later.cell r4
  have B5 := Later.cell r5
  have B6 := Later.cell r6
  have B7 := Later.cell r7
  have B8 := Later.cell r8
  have B9 := Later.cell r9
  have B10 := Later.cell r10
  have B11 := Later.cell r11
  clear q0 q1 q2 q3 q4 q5 q6 q7 q8 q9 q10 q11 r0 r1 r2 r3 r4 r5 r6 r7 r8 r9 r10 r11
  have hCw := Ext.refl wb
  have hil : (i : Int) < (q.parts.length : Int) := by omega
  have hkl : (k : Int) < (q.parts.length : Int) := by omega
  go_enter Try.func25, Try.ntmps25
  go_upto_region 1 with fail
  go_cut [8, 9] (fun r5 r6 wx => ∃ b5 b6 : Nat, r5 = .pointer (some ⟨b5, 0, none⟩) ∧ r6 = .pointer (some ⟨b6, 0, none⟩) ∧
    wx.heap[b5]? = some (.cells #[.string av1, .int .i64 ak1, .string as1, .string ag1, .string av2, .int .i64 ak2, .string as2, .string ag2, .string av3, .int .i64 ak3, .string as3, .string ag3] 32) ∧
    wx.heap[b6]? = some (.cells #[.string bv1, .int .i64 bk1, .string bs1, .string bg1, .string bv2, .int .i64 bk2, .string bs2, .string bg2, .string bv3, .int .i64 bk3, .string bs3, .string bg3] 32) ∧ Ext wb wx)
  case first =>
    refine wp_region_tree (Ext wb) [0, 1, 2, 3, 4, 5, 6, 7, 8, 9] 4 (by kernel_rfl) (by kernel_rfl) (fun _ _ h k => h.trans k) (Ext.refl wb) ?_
    simp only [List.filterMap_cons, List.filterMap_nil, List.getElem?_cons_succ, List.getElem?_cons_zero]
    repeat (first | ((with_reducible refine wpFr_yes ?hw ?_); (case hw => rfl); intro K hK; go_simp; (first | (refine hK _ ?_; clear hK K) | (apply Exists.intro; refine ⟨fun x => ?_, hK _ ?_⟩; (fail); clear hK K))) | ((with_reducible refine wpFr_not ?hw ?_); (case hw => rfl); intro K hK; go_simp; (refine hK _ ?_; clear hK K)))
    refine wpFr_nil ?_
    refine wpE_two 10 11 (by kernel_rfl) rfl rfl (fun W K hW hK => ?_) (fun W K hW hK => ?_)
    · go_simp
      have hCa : Ext wb (W.alloc (.cells #[.string ⟨#[]⟩, .int .i64 0, .string ⟨#[]⟩, .string ⟨#[]⟩, .string ⟨#[]⟩, .int .i64 0, .string ⟨#[]⟩, .string ⟨#[]⟩, .string ⟨#[]⟩, .int .i64 0, .string ⟨#[]⟩, .string ⟨#[]⟩] 32)) := hW.alloc _
      refine ⟨hCa, hK _ _ ?_⟩
      clear hK K
      have hsW := hW.size
      have hbN := alloc_heap_new W (.cells #[.string ⟨#[]⟩, .int .i64 0, .string ⟨#[]⟩, .string ⟨#[]⟩, .string ⟨#[]⟩, .int .i64 0, .string ⟨#[]⟩, .string ⟨#[]⟩, .string ⟨#[]⟩, .int .i64 0, .string ⟨#[]⟩, .string ⟨#[]⟩] 32)
      refine wpE_one 11 (by kernel_rfl) rfl fun W2 K hW2 hK => ?_
      go_simp
      have hCb : Ext wb (W2.alloc (.cells #[.string ⟨#[]⟩, .int .i64 0, .string ⟨#[]⟩, .string ⟨#[]⟩, .string ⟨#[]⟩, .int .i64 0, .string ⟨#[]⟩, .string ⟨#[]⟩, .string ⟨#[]⟩, .int .i64 0, .string ⟨#[]⟩, .string ⟨#[]⟩] 32)) := (hCa.trans hW2).alloc _
      refine ⟨hCb, hK _ _ ?_⟩
      clear hK K
      have hbB := alloc_heap_new W2 (.cells #[.string ⟨#[]⟩, .int .i64 0, .string ⟨#[]⟩, .string ⟨#[]⟩, .string ⟨#[]⟩, .int .i64 0, .string ⟨#[]⟩, .string ⟨#[]⟩, .string ⟨#[]⟩, .int .i64 0, .string ⟨#[]⟩, .string ⟨#[]⟩] 32)
      have hbA := heap_ext (hW2.alloc (.cells #[.string ⟨#[]⟩, .int .i64 0, .string ⟨#[]⟩, .string ⟨#[]⟩, .string ⟨#[]⟩, .int .i64 0, .string ⟨#[]⟩, .string ⟨#[]⟩, .string ⟨#[]⟩, .int .i64 0, .string ⟨#[]⟩, .string ⟨#[]⟩] 32)) hbN
      have hs2 := hW2.size
      rw [World.size_alloc] at hs2
      generalize W2.alloc (.cells #[.string ⟨#[]⟩, .int .i64 0, .string ⟨#[]⟩, .string ⟨#[]⟩, .string ⟨#[]⟩, .int .i64 0, .string ⟨#[]⟩, .string ⟨#[]⟩, .string ⟨#[]⟩, .int .i64 0, .string ⟨#[]⟩, .string ⟨#[]⟩] 32) = Wb at hCb hbA hbB ⊢
      refine wpE_one 12 (by kernel_rfl) rfl fun W3 K hW3 hK => ?_
      rw [if_pos (show Region.wanted _ _ = true from rfl)]
      have hC3 := hCb.trans hW3
      refine okE_store_row rfl (b := W.heap.size) rfl rfl (c' := #[.string av1, .int .i64 ak1, .string as1, .string ag1, .string av2, .int .i64 ak2, .string as2, .string ag2, .string av3, .int .i64 ak3, .string as3, .string ag3]) (heap_ext hW3 hbA) (by kernel_rfl) rfl (by simp [Value.oneCell']) (below_setRow hC3 (by omega) _) (hK _ _ ?_)
      clear hK K
      have hx5 := setRow_heap W3 (W.heap.size) _ #[.string av1, .int .i64 ak1, .string as1, .string ag1, .string av2, .int .i64 ak2, .string as2, .string ag2, .string av3, .int .i64 ak3, .string as3, .string ag3] _ _ (heap_ext hW3 hbA)
      have hx6 := (setRow_other W3 (W.heap.size) (W2.heap.size) #[.string av1, .int .i64 ak1, .string as1, .string ag1, .string av2, .int .i64 ak2, .string as2, .string ag2, .string av3, .int .i64 ak3, .string as3, .string ag3] (by omega)).trans (heap_ext hW3 hbB)
      have hC4 : Ext wb (W3.setRow (W.heap.size) #[.string av1, .int .i64 ak1, .string as1, .string ag1, .string av2, .int .i64 ak2, .string as2, .string ag2, .string av3, .int .i64 ak3, .string as3, .string ag3]) := below_setRow hC3 (by omega) _
      generalize W3.setRow (W.heap.size) #[.string av1, .int .i64 ak1, .string as1, .string ag1, .string av2, .int .i64 ak2, .string as2, .string ag2, .string av3, .int .i64 ak3, .string as3, .string ag3] = Wc at hx5 hx6 hC4 ⊢
      refine wpE_one 13 (by kernel_rfl) rfl fun W4 K hW4 hK => ?_
      rw [if_pos (show Region.wanted _ _ = true from rfl)]
      have hC5 := hC4.trans hW4
      refine okE_store_row rfl (b := W2.heap.size) rfl rfl (c' := #[.string bv1, .int .i64 bk1, .string bs1, .string bg1, .string bv2, .int .i64 bk2, .string bs2, .string bg2, .string bv3, .int .i64 bk3, .string bs3, .string bg3]) (heap_ext hW4 hx6) (by kernel_rfl) rfl (by simp [Value.oneCell']) (below_setRow hC5 (by omega) _) (hK _ _ ?_)
      clear hK K
      have hy6 := setRow_heap W4 (W2.heap.size) _ #[.string bv1, .int .i64 bk1, .string bs1, .string bg1, .string bv2, .int .i64 bk2, .string bs2, .string bg2, .string bv3, .int .i64 bk3, .string bs3, .string bg3] _ _ (heap_ext hW4 hx6)
      have hy5 := (setRow_other W4 (W2.heap.size) (W.heap.size) #[.string bv1, .int .i64 bk1, .string bs1, .string bg1, .string bv2, .int .i64 bk2, .string bs2, .string bg2, .string bv3, .int .i64 bk3, .string bs3, .string bg3] (by omega)).trans (heap_ext hW4 hx5)
      have hC6 : Ext wb (W4.setRow (W2.heap.size) #[.string bv1, .int .i64 bk1, .string bs1, .string bg1, .string bv2, .int .i64 bk2, .string bs2, .string bg2, .string bv3, .int .i64 bk3, .string bs3, .string bg3]) := below_setRow hC5 (by omega) _
      generalize W4.setRow (W2.heap.size) #[.string bv1, .int .i64 bk1, .string bs1, .string bg1, .string bv2, .int .i64 bk2, .string bs2, .string bg2, .string bv3, .int .i64 bk3, .string bs3, .string bg3] = Wd at hy5 hy6 hC6 ⊢
      refine wpE_none (by kernel_rfl) fun x hxx => ?_
      go_wp2
      go_meet
      case rel => exact ⟨_, _, rfl, rfl, heap_ext hxx hy5, heap_ext hxx hy6, hC6.trans hxx⟩
    · go_simp
      have hCa : Ext wb (W.alloc (.cells #[.string ⟨#[]⟩, .int .i64 0, .string ⟨#[]⟩, .string ⟨#[]⟩, .string ⟨#[]⟩, .int .i64 0, .string ⟨#[]⟩, .string ⟨#[]⟩, .string ⟨#[]⟩, .int .i64 0, .string ⟨#[]⟩, .string ⟨#[]⟩] 32)) := hW.alloc _
      refine ⟨hCa, hK _ _ ?_⟩
      clear hK K
      have hsW := hW.size
      have hbN := alloc_heap_new W (.cells #[.string ⟨#[]⟩, .int .i64 0, .string ⟨#[]⟩, .string ⟨#[]⟩, .string ⟨#[]⟩, .int .i64 0, .string ⟨#[]⟩, .string ⟨#[]⟩, .string ⟨#[]⟩, .int .i64 0, .string ⟨#[]⟩, .string ⟨#[]⟩] 32)
      refine wpE_one 10 (by kernel_rfl) rfl fun W2 K hW2 hK => ?_
      go_simp
      have hCb : Ext wb (W2.alloc (.cells #[.string ⟨#[]⟩, .int .i64 0, .string ⟨#[]⟩, .string ⟨#[]⟩, .string ⟨#[]⟩, .int .i64 0, .string ⟨#[]⟩, .string ⟨#[]⟩, .string ⟨#[]⟩, .int .i64 0, .string ⟨#[]⟩, .string ⟨#[]⟩] 32)) := (hCa.trans hW2).alloc _
      refine ⟨hCb, hK _ _ ?_⟩
      clear hK K
      have hbB := alloc_heap_new W2 (.cells #[.string ⟨#[]⟩, .int .i64 0, .string ⟨#[]⟩, .string ⟨#[]⟩, .string ⟨#[]⟩, .int .i64 0, .string ⟨#[]⟩, .string ⟨#[]⟩, .string ⟨#[]⟩, .int .i64 0, .string ⟨#[]⟩, .string ⟨#[]⟩] 32)
      have hbA := heap_ext (hW2.alloc (.cells #[.string ⟨#[]⟩, .int .i64 0, .string ⟨#[]⟩, .string ⟨#[]⟩, .string ⟨#[]⟩, .int .i64 0, .string ⟨#[]⟩, .string ⟨#[]⟩, .string ⟨#[]⟩, .int .i64 0, .string ⟨#[]⟩, .string ⟨#[]⟩] 32)) hbN
      have hs2 := hW2.size
      rw [World.size_alloc] at hs2
      generalize W2.alloc (.cells #[.string ⟨#[]⟩, .int .i64 0, .string ⟨#[]⟩, .string ⟨#[]⟩, .string ⟨#[]⟩, .int .i64 0, .string ⟨#[]⟩, .string ⟨#[]⟩, .string ⟨#[]⟩, .int .i64 0, .string ⟨#[]⟩, .string ⟨#[]⟩] 32) = Wb at hCb hbA hbB ⊢
      refine wpE_one 12 (by kernel_rfl) rfl fun W3 K hW3 hK => ?_
      rw [if_pos (show Region.wanted _ _ = true from rfl)]
      have hC3 := hCb.trans hW3
      refine okE_store_row rfl (b := W2.heap.size) rfl rfl (c' := #[.string av1, .int .i64 ak1, .string as1, .string ag1, .string av2, .int .i64 ak2, .string as2, .string ag2, .string av3, .int .i64 ak3, .string as3, .string ag3]) (heap_ext hW3 hbB) (by kernel_rfl) rfl (by simp [Value.oneCell']) (below_setRow hC3 (by omega) _) (hK _ _ ?_)
      clear hK K
      have hx5 := setRow_heap W3 (W2.heap.size) _ #[.string av1, .int .i64 ak1, .string as1, .string ag1, .string av2, .int .i64 ak2, .string as2, .string ag2, .string av3, .int .i64 ak3, .string as3, .string ag3] _ _ (heap_ext hW3 hbB)
      have hx6 := (setRow_other W3 (W2.heap.size) (W.heap.size) #[.string av1, .int .i64 ak1, .string as1, .string ag1, .string av2, .int .i64 ak2, .string as2, .string ag2, .string av3, .int .i64 ak3, .string as3, .string ag3] (by omega)).trans (heap_ext hW3 hbA)
      have hC4 : Ext wb (W3.setRow (W2.heap.size) #[.string av1, .int .i64 ak1, .string as1, .string ag1, .string av2, .int .i64 ak2, .string as2, .string ag2, .string av3, .int .i64 ak3, .string as3, .string ag3]) := below_setRow hC3 (by omega) _
      generalize W3.setRow (W2.heap.size) #[.string av1, .int .i64 ak1, .string as1, .string ag1, .string av2, .int .i64 ak2, .string as2, .string ag2, .string av3, .int .i64 ak3, .string as3, .string ag3] = Wc at hx5 hx6 hC4 ⊢
      refine wpE_one 13 (by kernel_rfl) rfl fun W4 K hW4 hK => ?_
      rw [if_pos (show Region.wanted _ _ = true from rfl)]
      have hC5 := hC4.trans hW4
      refine okE_store_row rfl (b := W.heap.size) rfl rfl (c' := #[.string bv1, .int .i64 bk1, .string bs1, .string bg1, .string bv2, .int .i64 bk2, .string bs2, .string bg2, .string bv3, .int .i64 bk3, .string bs3, .string bg3]) (heap_ext hW4 hx6) (by kernel_rfl) rfl (by simp [Value.oneCell']) (below_setRow hC5 (by omega) _) (hK _ _ ?_)
      clear hK K
      have hy6 := setRow_heap W4 (W.heap.size) _ #[.string bv1, .int .i64 bk1, .string bs1, .string bg1, .string bv2, .int .i64 bk2, .string bs2, .string bg2, .string bv3, .int .i64 bk3, .string bs3, .string bg3] _ _ (heap_ext hW4 hx6)
      have hy5 := (setRow_other W4 (W.heap.size) (W2.heap.size) #[.string bv1, .int .i64 bk1, .string bs1, .string bg1, .string bv2, .int .i64 bk2, .string bs2, .string bg2, .string bv3, .int .i64 bk3, .string bs3, .string bg3] (by omega)).trans (heap_ext hW4 hx5)
      have hC6 : Ext wb (W4.setRow (W.heap.size) #[.string bv1, .int .i64 bk1, .string bs1, .string bg1, .string bv2, .int .i64 bk2, .string bs2, .string bg2, .string bv3, .int .i64 bk3, .string bs3, .string bg3]) := below_setRow hC5 (by omega) _
      generalize W4.setRow (W.heap.size) #[.string bv1, .int .i64 bk1, .string bs1, .string bg1, .string bv2, .int .i64 bk2, .string bs2, .string bg2, .string bv3, .int .i64 bk3, .string bs3, .string bg3] = Wd at hy5 hy6 hC6 ⊢
      refine wpE_none (by kernel_rfl) fun x hxx => ?_
      go_wp2
      go_meet
      case rel => exact ⟨_, _, rfl, rfl, heap_ext hxx hy5, heap_ext hxx hy6, hC6.trans hxx⟩
  case rest =>
    obtain ⟨b5, b6, rfl, rfl, hb5, hb6, hx⟩ := hcut
    rename_i wc _
    have C1 := Later.cells hb5
    have C2 := Later.cells hb6
    have D1 := Later.cells (heap_ext hx hqb)
    have D2 := Later.cells (heap_ext hx hkb)
    have D3 := Later.cells (heap_ext hx hsb)
    have ta := fun (x : Later wc) => HC.out.1 x.wd (hx.trans x.ext)
    have tb := fun (x : Later wc) => HC.out.2.1 x.wd (hx.trans x.ext)
    have HT := Lib.hid (And.intro ta tb)
    clear A0 A1 A2 A3 A4 A5 A6 A7 A8 A9 A10 A11 B0 B1 B2 B3 B4 B5 B6 B7 B8 B9 B10 B11 D ta tb
    go_upto_region 2 with fail
    refine wp_region_treez (Ext wc) [0, 1, 2, 3, 4, 5, 6, 7, 8, 11, 12] ([9, 10, 13, 14, 15, 16, 17].length + 1) 18 (by kernel_rfl) (by kernel_rfl) (fun _ _ h k => h.trans k) (Ext.refl wc) ?_
    simp only [List.filterMap_cons, List.filterMap_nil, List.getElem?_cons_succ, List.getElem?_cons_zero]
    repeat (first | ((with_reducible refine wpFr_yes ?hw ?_); (case hw => rfl); intro K hK; go_simp; (first | (refine hK _ ?_; clear hK K) | (apply Exists.intro; refine ⟨fun x => ?_, hK _ ?_⟩; ((first | (go_at_call 28; first | (with_reducible exact HT.out.1 x) | (with_reducible exact HT.out.2 x)) | (go_at_call 27; exact (cmpCompare_int _ _ _).mono fun e w' ⟨h1, h2⟩ => ⟨h1, h2 ▸ Ext.refl _⟩))); clear hK K))) | ((with_reducible refine wpFr_not ?hw ?_); (case hw => rfl); intro K hK; go_simp; (refine hK _ ?_; clear hK K)))
    refine wpFr_nil ?_
    refine wpE_steps [9, 10, 13, 14, 15, 16, 17] (fun i => match i with | 9 => [] | 10 => [9] | 13 => [] | 14 => [13] | 15 => [10, 14] | 16 => [15] | 17 => [16] | _ => []) ?R rfl (by kernel_rfl) (fun _ _ h k => h.trans k) (Ext.refl wc) ?hR ?hstep ?hend
    case R => exact planR na nb (cmpI xb xa) (cmpI na nb)
    case hR => exact planR_ext na nb _ _
    case hstep =>
      simp only [stepsOk, List.getElem?_toArray, List.getElem?_cons_succ, List.getElem?_cons_zero]
      refine ⟨?s9, ?s10, ?s13, ?s14, ?s15, ?s16, ?s17, trivial⟩
      case s9 =>
        intro f W hW hd
        simp only [putAll, dstOf, List.getElem?_toArray, List.getElem?_cons_succ, List.getElem?_cons_zero, Option.bind_some]
        refine opI_yes rfl ?_
        go_simp
        refine (HC.out.2.2.1 W (hx.trans hW)).mono ?_
        rintro e w' ⟨p, c, rfl, hxe⟩
        exact ⟨_, rfl, hxe, ⟨p, c, rfl⟩⟩
      case s10 =>
        intro f W hW hd
        obtain ⟨p, c, e9⟩ : ∃ p c, f 9 = .slice p na c := hd 9 (by simp)
        simp only [putAll, dstOf, List.getElem?_toArray, List.getElem?_cons_succ, List.getElem?_cons_zero, Option.bind_some]
        rw [e9]
        refine opI_yes rfl ?_
        go_simp
        exact ⟨Ext.refl _, rfl⟩
      case s13 =>
        intro f W hW hd
        simp only [putAll, dstOf, List.getElem?_toArray, List.getElem?_cons_succ, List.getElem?_cons_zero, Option.bind_some]
        refine opI_yes rfl ?_
        go_simp
        refine (HC.out.2.2.2 W (hx.trans hW)).mono ?_
        rintro e w' ⟨p, c, rfl, hxe⟩
        exact ⟨_, rfl, hxe, ⟨p, c, rfl⟩⟩
      case s14 =>
        intro f W hW hd
        obtain ⟨p, c, e13⟩ : ∃ p c, f 13 = .slice p nb c := hd 13 (by simp)
        simp only [putAll, dstOf, List.getElem?_toArray, List.getElem?_cons_succ, List.getElem?_cons_zero, Option.bind_some]
        rw [e13]
        refine opI_yes rfl ?_
        go_simp
        exact ⟨Ext.refl _, rfl⟩
      case s15 =>
        intro f W hW hd
        have e10 : f 10 = .int .i64 na := hd 10 (by simp)
        have e14 : f 14 = .int .i64 nb := hd 14 (by simp)
        simp only [putAll, dstOf, List.getElem?_toArray, List.getElem?_cons_succ, List.getElem?_cons_zero, Option.bind_some]
        rw [e10, e14]
        refine opI_yes rfl ?_
        go_simp
        refine (cmpCompare_int _ _ _).mono ?_
        rintro e w' ⟨rfl, rfl⟩
        exact ⟨_, rfl, Ext.refl _, rfl⟩
      case s16 =>
        intro f W hW hd
        have e15 : f 15 = .int .i64 (cmpI na nb) := hd 15 (by simp)
        simp only [putAll, dstOf, List.getElem?_toArray, List.getElem?_cons_succ, List.getElem?_cons_zero, Option.bind_some]
        rw [e15]
        refine opI_yes rfl ?_
        go_simp
        have hn := alloc_heap_new W (.cells #[.int .i64 (cmpI xb xa), .int .i64 (cmpI na nb)] 3)
        exact ⟨(Ext.refl _).alloc _, ⟨_, rfl, cells_at hn 0, cells_at hn 1⟩⟩
      case s17 =>
        intro f W hW hd
        obtain ⟨b, e16, c0, c1⟩ : ∃ b, f 16 = .slice (some ⟨b, 0, none⟩) 2 2 ∧ W.cell? ⟨b, 0, none⟩ = some (.int .i64 (cmpI xb xa)) ∧ W.cell? ⟨b, 1, none⟩ = some (.int .i64 (cmpI na nb)) := hd 16 (by simp)
        have hor := cmpOr_int _ [cmpI xb xa, cmpI na nb] W (reads2 W b _ _ c0 c1)
        simp only [putAll, dstOf, List.getElem?_toArray, List.getElem?_cons_succ, List.getElem?_cons_zero, Option.bind_some]
        rw [e16]
        refine opI_yes rfl ?_
        go_simp
        refine hor.mono ?_
        rintro e w' ⟨rfl, rfl⟩
        exact ⟨_, rfl, Ext.refl _, rfl⟩
    case hend =>
      intro f W K hW hr hK
      have e17 : f 17 = .int .i64 (orI [cmpI xb xa, cmpI na nb]) := hr 17 (by simp)
      clear hr
      simp only [putAll, dstOf, List.getElem?_toArray, List.getElem?_cons_succ, List.getElem?_cons_zero, Option.bind_some]
      rw [e17]
      generalize f 9 = g9
      generalize f 10 = g10
      generalize f 13 = g13
      generalize f 14 = g14
      generalize f 15 = g15
      generalize f 16 = g16
      generalize hRR : orI [cmpI xb xa, cmpI na nb] = R
      have HR := Lib.hid hRR
      clear e17 hRR
      refine lastI_yes rfl ?_
      go_simp
      refine hK _ _ (fun z hz => ?_)
      clear hK K C1 C2 D1 D2 D3
      go_wp2
      go_ret
      exact ⟨by rw [HR.out]; rfl, (hx.trans hW).trans hz⟩
end Go.Proofs.Ytmobdmljbbckiaa
