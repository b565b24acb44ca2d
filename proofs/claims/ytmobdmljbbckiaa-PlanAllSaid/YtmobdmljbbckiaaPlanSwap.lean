/- plan.Swap at an order that is right. -/
import Derived.Test.YtmobdmljbbckiaaCloneStr
import Derived.Test.YtmobdmljbbckiaaQueryPure
import Derived.Test.YtmobdmljbbckiaaErrs
import Derived.Test.YtmobdmljbbckiaaPlanPure
import Derived.Test.YtmobdmljbbckiaaAppendApart
import Derived.Test.YtmobdmljbbckiaaOwnSet
import Derived.Test.YtmobdmljbbckiaaRegion
import Derived.Laws.OwnMore
namespace Go.Proofs.Ytmobdmljbbckiaa
open Go.RowKit
set_option maxHeartbeats 3200000
set_option maxRecDepth 100000

/-- parts taken in an order -/
def takeParts (ps : List Pat) (o : List Nat) : List Pat := o.map fun i => ps.getD i default
def ints (o : List Nat) : List Int := o.map fun i : Nat => (i : Int)
theorem own_set_ne2 {w : World} {base : Nat} {e : TypeId} {size : Nat} {v : Value} {n : Nat} {xs : List Value} (h : w.ownsRow base e size v n xs) {blk : Nat} (hne : v.ownBlock ≠ some blk) (i : Nat) (u : Value) : (w.setCell ⟨blk, i, none⟩ u).ownsRow base e size v n xs := by
  obtain ⟨h1, h2 | ⟨g, cap, cur, e1, e2, hcur, r⟩⟩ := h
  · exact ⟨h1, .inl h2⟩
  · refine ⟨h1, .inr ⟨g, cap, cur, e1, e2, ?_, r⟩⟩
    rw [Below.heap_setCell _ _ _ _ (fun q => hne (by rw [e1, q]; rfl))]
    exact hcur
theorem set_six {w : World} {b : Nat} {c0 c1 c2 c3 c4 c5 : Value} {T : TypeId} (hb : w.heap[b]? = some (.cells #[c0, c1, c2, c3, c4, c5] T)) (u0 u1 u2 u3 u4 u5 : Value) {B : Nat} {w0 : World} (hB : B ≤ b) (hw : Below B w0 w) :
    ∃ w', w' = (((((w.setCell ⟨b, 0, none⟩ u0).setCell ⟨b, 1, none⟩ u1).setCell ⟨b, 2, none⟩ u2).setCell ⟨b, 3, none⟩ u3).setCell ⟨b, 4, none⟩ u4).setCell ⟨b, 5, none⟩ u5 ∧ w'.heap[b]? = some (.cells #[u0, u1, u2, u3, u4, u5] T) ∧ Below B w0 w' ∧
      ∀ {base : Nat} {e : TypeId} {size : Nat} {v : Value} {n : Nat} {xs : List Value}, v.ownBlock ≠ some b → w.ownsRow base e size v n xs → w'.ownsRow base e size v n xs := by
  have h0 := heap_setCell_same w b 0 _ _ u0 hb
  have h1 := heap_setCell_same _ b 1 _ _ u1 h0
  have h2 := heap_setCell_same _ b 2 _ _ u2 h1
  have h3 := heap_setCell_same _ b 3 _ _ u3 h2
  have h4 := heap_setCell_same _ b 4 _ _ u4 h3
  have h5 := heap_setCell_same _ b 5 _ _ u5 h4
  exact ⟨_, rfl, h5, (((((hw.setCell hB _).setCell hB _).setCell hB _).setCell hB _).setCell hB _).setCell hB _,
    fun hne h => own_set_ne2 (own_set_ne2 (own_set_ne2 (own_set_ne2 (own_set_ne2 (own_set_ne2 h hne _ _) hne _ _) hne _ _) hne _ _) hne _ _) hne _ _⟩

theorem infoPat : ∃ i z, Try.prog.info? 32 = some i ∧ i.zero = some z ∧ i.size = 12 ∧ i.bytes = 168 ∧ z.cells.size = 12 := ⟨_, _, rfl, rfl, rfl, rfl, rfl⟩
theorem encPat_one (l : List Pat) : ∀ u ∈ l.flatMap encPat, u.oneCell' = true := by
  intro u hu
  obtain ⟨x, _, hx⟩ := List.mem_flatMap.1 hu
  simp [encPat, encSlot] at hx
  rcases hx with h | h | h | h | h | h | h | h | h | h | h | h <;> subst h <;> rfl
theorem make_bools (n : Nat) (hn : n ≤ 1000) (W : World) : (Instr.makeSlice 83 (.int .i64 (n : Int)) (.int .i64 (n : Int))).run Try.prog W = .ok (.slice (some ⟨W.heap.size, 0, none⟩) n n) (W.alloc (.cells (Array.replicate n (.bool false)) 4)) := by
  obtain ⟨i, hi, hz, hs, hb⟩ : ∃ i, Try.prog.info? 4 = some i ∧ i.zero = some (.bool false) ∧ i.size = 1 ∧ i.bytes = 1 := ⟨_, rfl, rfl, rfl, rfl⟩
  have h := run_make (P := Try.prog) W 83 4 i (.bool false) Try.underlying83 hi hz .i64 .i64 (n : Int) (n : Int) (by omega) (Int.le_refl _) (by rw [hb]; omega) (by omega)
  rw [h, hs]
  have e : madeCells (Value.bool false).cells (n * 1) = Array.replicate n (.bool false) := by
    apply Array.toList_inj.1
    have := toList_madeCells_one (.bool false) n
    simpa [Value.cells] using this
  simp only [Int.toNat_natCast, e]
theorem takeParts_snoc (ps : List Pat) (o : List Nat) (j : Nat) (h : j < o.length) : takeParts ps (o.take (j + 1)) = takeParts ps (o.take j) ++ [ps.getD o[j] default] := by
  unfold takeParts
  rw [List.take_succ_eq_append_getElem h, List.map_append]; rfl
theorem takeParts_len (ps : List Pat) (o : List Nat) : (takeParts ps o).length = o.length := by simp [takeParts]

/-- what stands in Swap's loop -/
structure SwapInv (wa wr : World) (sb : Nat) (ps : List Pat) (o : List Nat) (j : Nat) (pv : Value) : Prop where
  own : wr.ownsRow (sb + 1) 32 12 pv j ((takeParts ps (o.take j)).flatMap encPat)
  seen : Bools ps.length wr sb (fun k => (o.take j).any fun x => decide (x = k))
  ext : Ext wa wr
  room : sb + 1 ≤ wr.heap.size
theorem SwapInv.apart {wa wr : World} {sb : Nat} {ps : List Pat} {o : List Nat} {j : Nat} {pv : Value} (h : SwapInv wa wr sb ps o j pv) : pv.ownBlock ≠ some sb := fun e => by
  have := (World.ownsRow.lt h.own sb e).1; omega
theorem swap_new {ps : List Pat} {o : List Nat} {j : Nat} (hj : j < o.length) (hd : o.Nodup) : ((o.take j).any fun x => decide (x = o[j])) = false := by
  rw [List.any_eq_false]
  intro x hx e
  obtain ⟨i, hi, rfl⟩ := List.mem_iff_getElem.1 hx
  rw [List.length_take] at hi
  rw [List.getElem_take] at e
  have := (List.getElem_inj hd).1 (of_decide_eq_true e)
  omega
theorem swap_step {wa wr w7 w9 : World} {sb : Nat} {ps : List Pat} {o : List Nat} {j k : Nat} {pv v9 : Value} (hsb : wa.heap.size = sb) (hjo : j < o.length) (hk : k < ps.length) (hok : o[j] = k) (H : SwapInv wa wr sb ps o j pv) (h7 : w7 = wr.setCell ⟨sb, k, none⟩ (.bool true))
    (hg : w7.grownBy w9 pv.ownBlock ∨ ∃ w8, Ext w7 w8 ∧ w8.grownBy w9 pv.ownBlock) (hown : w9.ownsRow (sb + 1) 32 12 v9 (j + 1) ((takeParts ps (o.take j)).flatMap encPat ++ encPat (ps.getD k default))) : SwapInv wa w9 sb ps o (j + 1) v9 := by
  have hx7 : Ext wa w7 := by subst h7; exact H.ext.setCell (by show wa.heap.size ≤ sb; omega) _
  have hs7 : w7.heap.size = wr.heap.size := by subst h7; exact World.size_setCell _ _ _
  have hb7 : Bools ps.length w7 sb (fun t => if t = k then true else (o.take j).any fun x => decide (x = t)) := by subst h7; exact H.seen.set hk true
  have hroom := H.room
  obtain ⟨w8, hx8, hg8⟩ : ∃ w8, Ext w7 w8 ∧ w8.grownBy w9 pv.ownBlock := hg.elim (fun h => ⟨w7, Ext.refl _, h⟩) id
  have hs8 := hx8.size
  have hx9 : Below (sb + 1) w7 w9 := Below.grown (Below.mono hx8 (show sb + 1 ≤ w7.heap.size by omega)) hg8 (by omega) (fun q hq => (World.ownsRow.lt H.own q hq).1)
  refine ⟨?_, ?_, Below.trans hx7 (Below.mono hx9 (show wa.heap.size ≤ sb + 1 by omega)), ?_⟩
  · rw [takeParts_snoc ps o j hjo, hok, List.flatMap_append]
    simpa using hown
  · have := hb7.below hx9 (Nat.lt_succ_self sb)
    refine this.congr fun t _ => ?_
    rw [List.take_succ_eq_append_getElem hjo, hok, List.any_append]
    by_cases e : t = k
    · subst e; simp
    · have e2 : ¬ k = t := fun q => e q.symm
      simp [e, e2]
  · have := hx9.size; omega

theorem planSwap_ok (vv vp vo : Value) (q : Qu) (o : List Nat) (w : World) (hv : Reads encS w vv q.vars) (hp : Reads encPat w vp q.parts) (ho : Reads encI w vo (ints o)) (hn : o.length = q.parts.length) (h6 : q.parts.length ≤ 6) (h8 : q.vars.length ≤ 100000)
    (hb : ∀ i ∈ o, i < q.parts.length) (hd : o.Nodup) :
    Calls Try.prog 10 #[vQu vv vp q, vo] w fun e w' => ∃ pa ca pb cb, e = .returned (.tuple #[vQu (.slice pa q.vars.length ca) (.slice pb q.parts.length cb) q, .nilIface]) ∧ Reads encS w' (.slice pa q.vars.length ca) q.vars ∧ Reads encPat w' (.slice pb q.parts.length cb) (takeParts q.parts o) ∧ Ext w w' := by
  obtain ⟨i0, z0, hi, hz0, hz1, hz2, hz3⟩ := infoPat
  have hmk := make_bools q.parts.length (by omega)
  have hcl := fun W (hW : Ext w W) => clone_str vv q.vars W (hv.ext hW) h8
  obtain ⟨av, cv, rfl⟩ := hv.slice
  obtain ⟨ap, cp, hval, hcap, hmax, hcells⟩ := hp
  cases hval
  obtain ⟨ao, co, hval, hcapo, hmaxo, hcello⟩ := ho
  have hlo : (ints o).length = q.parts.length := by simp [ints, hn]
  rw [hlo] at hval hcapo
  subst hval
  unfold maxLen at hmax hmaxo
  obtain ⟨vars, parts, order, down, dist, limit⟩ := q
  dsimp only at *
  have HC := Lib.hid (And.intro hcells (And.intro hcello hlo))
  have HT := Lib.hid (And.intro hi (And.intro hz0 (And.intro hz1 (And.intro hz2 hz3))))
  have HD := Lib.hid (And.intro hb (And.intro hd hn))
  have HV := Lib.hid hcl
  clear hcells hcello hi hz0 hz1 hz2 hz3 hb hd hcl hv hlo hn
  have hxb := ((Ext.refl w).alloc (.cells #[.slice av vars.length cv, .slice ap parts.length cp, .string order, .bool down, .bool dist, .int .i64 limit] 26)).alloc (.cells #[.slice none 0 0, .slice none 0 0, .string ⟨#[]⟩, .bool false, .bool false, .int .i64 0] 26)
  have hb1 := heap_ext ((Ext.refl _).alloc (.cells #[.slice none 0 0, .slice none 0 0, .string ⟨#[]⟩, .bool false, .bool false, .int .i64 0] 26)) (alloc_heap_new w (.cells #[.slice av vars.length cv, .slice ap parts.length cp, .string order, .bool down, .bool dist, .int .i64 limit] 26))
  have hb2 := alloc_heap_new (w.alloc (.cells #[.slice av vars.length cv, .slice ap parts.length cp, .string order, .bool down, .bool dist, .int .i64 limit] 26)) (.cells #[.slice none 0 0, .slice none 0 0, .string ⟨#[]⟩, .bool false, .bool false, .int .i64 0] 26)
  rw [World.size_alloc] at hb2
  go_enter Try.func10, Try.ntmps10
  go_upto_region 1 with fail
  have hsz : (World.alloc (World.alloc w (.cells #[.slice av vars.length cv, .slice ap parts.length cp, .string order, .bool down, .bool dist, .int .i64 limit] 26)) (.cells #[.slice none 0 0, .slice none 0 0, .string ⟨#[]⟩, .bool false, .bool false, .int .i64 0] 26)).heap.size = w.heap.size + 2 := by simp [World.size_alloc]
  generalize hwa : World.alloc (World.alloc w _) _ = wa at hxb hb1 hb2 hsz ⊢
  have HSZ := Lib.hid hsz
  clear hwa hsz
  have A1 := cells_at hb1
  go_upto_region 5 with fail
  clear A1
  have hx5 := (Ext.refl wa).alloc (.cells (Array.replicate parts.length (.bool false)) 4)
  have hB5 := bools_new parts.length wa (Array.replicate parts.length (.bool false)) 4 rfl
  have hs5 : (World.alloc wa (.cells (Array.replicate parts.length (.bool false)) 4)).heap.size = wa.heap.size + 1 := by simp [World.size_alloc]
  generalize hw5 : World.alloc wa _ = w5 at hx5 hB5 hs5 ⊢
  generalize hsb : wa.heap.size = sb at hB5 hs5 ⊢
  have HSB := Lib.hid hsb
  clear hw5 hsb hmk
  obtain ⟨w6, hrun6, hown6, hgrow6⟩ := run_makeSlice_owned (P := Try.prog) w5 (sb + 1) 24 32 i0 z0 12 Try.underlying24 HT.out.1 HT.out.2.1 HT.out.2.2.1 .i64 .i64 parts.length (by omega) (by rw [HT.out.2.2.2.1]; omega) (by unfold maxLen; omega) (by omega)
  have H6 := Lib.hid (And.intro hown6 hgrow6)
  clear hown6 hgrow6
  go_upto_region 6 with fail
  clear hrun6
  have hI0 : SwapInv wa w6 sb parts o 0 (.slice (some ⟨w5.heap.size, 0, none⟩) 0 parts.length) :=
    ⟨H6.out.1, hB5.ext ((Ext.refl w5).grown H6.out.2 (Nat.le_refl _) (fun q hq => by cases hq)), hx5.grown H6.out.2 hx5.size (fun q hq => by cases hq), by have := H6.out.2.size; omega⟩
  rw [hs5] at hI0
  have HI0 := Lib.hid hI0
  clear hI0 hB5 hx5 hs5
  go_wp2
  go_loopw [8, 26] (fun pv jv wr => ∃ j : Nat, jv = .int .i64 j ∧ j ≤ parts.length ∧ Hid (SwapInv wa wr sb parts o j pv)) (fun _ jv _ => parts.length - (intOf jv).toNat)
  case atStart => exact ⟨0, rfl, Nat.zero_le _, HI0⟩
  case round =>
    obtain ⟨j, rfl, hj, HI⟩ := hrel
    by_cases hlt : j < parts.length
    · have hxr := hxb.trans HI.out.ext
      obtain ⟨bo, oo, rfl, hco⟩ := HC.out.2.1 (fun e => by have := HC.out.2.2; rw [e] at this; simp at this; omega)
      obtain ⟨bp, op, rfl, hcp⟩ := HC.out.1 (fun e => by rw [e] at hlt; exact absurd hlt (Nat.not_lt_zero _))
      have hjo : j < o.length := by have := HD.out.2.2; omega
      have hkb := HD.out.1 o[j] (List.getElem_mem hjo)
      have d := hxr.cell (Reads.int_at hco (show j < (ints o).length by rw [HC.out.2.2]; exact hlt))
      have hij : (ints o)[j]'(by rw [HC.out.2.2]; exact hlt) = ((o[j] : Nat) : Int) := by simp [ints]
      rw [hij] at d
      have hnew := swap_new (ps := parts) hjo HD.out.2.1
      have hse := HI.out.seen o[j] hkb
      dsimp only at hse
      rw [hnew] at hse
      obtain ⟨e1, e2⟩ := hse
      have HJ := Lib.hid (And.intro hco hcp)
      obtain ⟨k, hok⟩ : ∃ k, k = o[j] := ⟨_, rfl⟩
      rw [← hok] at hkb d e1 e2
      have HK := Lib.hid hok
      clear hok hij hnew hco hcp
      have hkI : (k : Int) < (parts.length : Int) := by omega
      have hk0 : ¬ ((k : Int) < 0) := by omega
      have hk1 : ¬ ((parts.length : Int) ≤ (k : Int)) := by omega
      go_upto_region 12 with fail
      obtain ⟨w7, hw7⟩ : ∃ w7, w7 = wr.setCell ⟨sb, k, none⟩ (.bool true) := ⟨_, rfl⟩
      rw [← hw7]
      have hx7 : Ext wa w7 := by rw [hw7]; exact HI.out.ext.setCell (by show _ ≤ sb; rw [HSB.out]; exact Nat.le_refl _) _
      have A7 := cells_at (heap_ext hx7 hb1)
      have hxw7 := hxb.trans hx7
      obtain ⟨q0, q1, q2, q3, q4, q5, q6, q7, q8, q9, q10, q11⟩ := Pat.cells HJ.out.2 hkb
      have d0 := hxw7.cell q0
      have d1 := hxw7.cell q1
      have d2 := hxw7.cell q2
      have d3 := hxw7.cell q3
      have d4 := hxw7.cell q4
      have d5 := hxw7.cell q5
      have d6 := hxw7.cell q6
      have d7 := hxw7.cell q7
      have d8 := hxw7.cell q8
      have d9 := hxw7.cell q9
      have d10 := hxw7.cell q10
      have d11 := hxw7.cell q11
      clear q0 q1 q2 q3 q4 q5 q6 q7 q8 q9 q10 q11
      have hgd : parts.getD k default = parts[k] := getD_at hkb _
      have ho7 := own_set_ne2 HI.out.own HI.out.apart k (.bool true)
      rw [← hw7] at ho7
      have hs7 : sb + 1 ≤ w7.heap.size := by rw [hw7, World.size_setCell]; exact HI.out.room
      have HW := Lib.hid hw7
      clear hw7 e1 e2 d
      generalize parts[k] = p at d0 d1 d2 d3 d4 d5 d6 d7 d8 d9 d10 d11 hgd
      obtain ⟨⟨v1, ⟨k1, s1, g1⟩⟩, ⟨v2, ⟨k2, s2, g2⟩⟩, ⟨v3, ⟨k3, s3, g3⟩⟩⟩ := p
      dsimp only at d0 d1 d2 d3 d4 d5 d6 d7 d8 d9 d10 d11
      have hx8 := (Ext.refl w7).alloc (.cells #[.string v1, .int .i64 k1, .string s1, .string g1, .string v2, .int .i64 k2, .string s2, .string g2, .string v3, .int .i64 k3, .string s3, .string g3] 32)
      have HO := Lib.hid (own_ext ho7 hx8)
      have HGD := Lib.hid hgd
      clear ho7 hgd
      go_wp2_with (at_builtin; refine wpList_append_own _ rfl _ _ 24 rfl (sb + 1) 32 i0 z0 12 168 Try.underlying24 HT.out.1 HT.out.2.1 HT.out.2.2.1 HT.out.2.2.2.1 HT.out.2.2.2.2 (by decide) _ _ _ rfl HO.out ⟨w7.heap.size, 0, none⟩ 1 1 (encPat ⟨⟨v1, ⟨k1, s1, g1⟩⟩, ⟨v2, ⟨k2, s2, g2⟩⟩, ⟨v3, ⟨k3, s3, g3⟩⟩⟩) rfl rfl (cells_new w7 #[.string v1, .int .i64 k1, .string s1, .string g1, .string v2, .int .i64 k2, .string s2, .string g2, .string v3, .int .i64 k3, .string s3, .string g3] 32 w7.heap.size rfl) (fun u hu => encPat_one [⟨⟨v1, ⟨k1, s1, g1⟩⟩, ⟨v2, ⟨k2, s2, g2⟩⟩, ⟨v3, ⟨k3, s3, g3⟩⟩⟩] u (by simpa using hu)) (by unfold maxLen; omega) (by omega) (Nat.le_trans hs7 hx8.size) ?_; intro v9 w9 hown9 hgrow9 _; have HG := Lib.hid (And.intro hown9 hgrow9); clear hown9 hgrow9)
      clear A7 d0 d1 d2 d3 d4 d5 d6 d7 d8 d9 d10 d11
      go_roundw
      case rel => exact ⟨j + 1, vi (by omega), hlt, Lib.hid (swap_step HSB.out hjo hkb HK.out.symm HI.out HW.out (.inr ⟨_, hx8, HG.out.2⟩) (by rw [HGD.out]; exact HG.out.1))⟩
      case measure => simp [intOf]; omega
    · have hjl : j = parts.length := by omega
      subst hjl
      have hown := HI.out.own
      rw [List.take_of_length_le (by rw [HD.out.2.2]; exact Nat.le_refl _)] at hown
      obtain ⟨pb, cb, rfl⟩ := sliceOf_own hown
      have hx := HI.out.ext
      have hroom := HI.out.room
      have hpb : (Value.slice pb parts.length cb).ownBlock ≠ some w.heap.size ∧ (Value.slice pb parts.length cb).ownBlock ≠ some (w.heap.size + 1) := by
        have h1 := HSZ.out
        have h2 := HSB.out
        exact ⟨fun e => by have := (World.ownsRow.lt hown _ e).1; omega, fun e => by have := (World.ownsRow.lt hown _ e).1; omega⟩
      have A1 := cells_at (heap_ext hx hb1)
      have HO := Lib.hid (And.intro hown hpb)
      clear hown hpb
      go_upto_region 15 with (go_at_call 33; refine (HV.out _ (hxb.trans hx)).mono ?_; rintro e w9 ⟨v9, rfl, ho9, hx9⟩; obtain ⟨pa, ca, rfl⟩ := sliceOf_own ho9; have A9 := cells_at (heap_ext (hx.trans hx9) hb1); have fz : ∀ i, w9.frozen? ⟨w.heap.size, i, none⟩ = false := fun i => by simp [World.frozen?, heap_ext (hx.trans hx9) hb1])
      have h9 := heap_ext (hx.trans hx9) hb1
      have z9 := heap_ext (hx.trans hx9) hb2
      have hb9 : w.heap.size ≤ wr.heap.size := by have := HSZ.out; have := HSB.out; omega
      have hpa : (Value.slice pa vars.length ca).ownBlock ≠ some w.heap.size ∧ (Value.slice pa vars.length ca).ownBlock ≠ some (w.heap.size + 1) := by
        have h1 := HSZ.out
        have h2 := HSB.out
        exact ⟨fun e => by have := (World.ownsRow.lt ho9 _ e).1; omega, fun e => by have := (World.ownsRow.lt ho9 _ e).1; omega⟩
      have HP := Lib.hid (And.intro ho9 (And.intro hpa (And.intro hb9 hx9)))
      clear ho9 hpa A1 hb9
      go_upto_region 16 with fail
      have h10 : ((w9.setCell ⟨w.heap.size, 0, none⟩ (.slice pa vars.length ca)).setCell ⟨w.heap.size, 1, none⟩ (.slice pb parts.length cb)).heap[w.heap.size]? = some (.cells #[.slice pa vars.length ca, .slice pb parts.length cb, .string order, .bool down, .bool dist, .int .i64 limit] 26) :=
        heap_setCell_same _ w.heap.size 1 _ _ (.slice pb parts.length cb) (heap_setCell_same w9 w.heap.size 0 _ _ (.slice pa vars.length ca) h9)
      have z10 : ((w9.setCell ⟨w.heap.size, 0, none⟩ (.slice pa vars.length ca)).setCell ⟨w.heap.size, 1, none⟩ (.slice pb parts.length cb)).heap[w.heap.size + 1]? = some (.cells #[.slice none 0 0, .slice none 0 0, .string ⟨#[]⟩, .bool false, .bool false, .int .i64 0] 26) := by
        rw [Below.heap_setCell _ _ _ _ (by show w.heap.size + 1 ≠ w.heap.size; omega), Below.heap_setCell _ _ _ _ (by show w.heap.size + 1 ≠ w.heap.size; omega)]; exact z9
      have x10 : Ext w ((w9.setCell ⟨w.heap.size, 0, none⟩ (.slice pa vars.length ca)).setCell ⟨w.heap.size, 1, none⟩ (.slice pb parts.length cb)) := ((hxb.trans (hx.trans hx9)).setCell (Nat.le_refl _) _).setCell (Nat.le_refl _) _
      have ho10 : ((w9.setCell ⟨w.heap.size, 0, none⟩ (.slice pa vars.length ca)).setCell ⟨w.heap.size, 1, none⟩ (.slice pb parts.length cb)).ownsRow wr.heap.size 9 1 (.slice pa vars.length ca) vars.length (vars.flatMap encS) := own_set_ne2 (own_set_ne2 HP.out.1 HP.out.2.1.1 _ _) HP.out.2.1.1 _ _
      have hp10 : ((w9.setCell ⟨w.heap.size, 0, none⟩ (.slice pa vars.length ca)).setCell ⟨w.heap.size, 1, none⟩ (.slice pb parts.length cb)).ownsRow (sb + 1) 32 12 (.slice pb parts.length cb) parts.length ((takeParts parts o).flatMap encPat) := own_set_ne2 (own_set_ne2 (own_ext HO.out.1 hx9) HO.out.2.1 _ _) HO.out.2.1 _ _
      clear A9 fz
      generalize World.setCell (World.setCell w9 _ _) _ _ = w10 at h10 z10 x10 ho10 hp10 ⊢
      obtain ⟨w11, hw11, h11, hx11, hk11⟩ := set_six z10 (.slice pa vars.length ca) (.slice pb parts.length cb) (.string order) (.bool down) (.bool dist) (.int .i64 limit) (B := w.heap.size) (Nat.le_succ _) x10
      have ho11 := hk11 HP.out.2.1.2 ho10
      have hp11 := hk11 HO.out.2.2 hp10
      have A10 := cells_at h10
      have Z10 := cells_at z10
      have fz : ∀ i, w10.frozen? ⟨w.heap.size + 1, i, none⟩ = false := fun i => by simp [World.frozen?, z10]
      have HE := Lib.hid (And.intro ho11 (And.intro hp11 hx11))
      clear hk11 ho10 hp10 x10 ho11 hp11 hx11 h10 z10 h9 z9
      go_wp2
      rw [← hw11]
      have A := cells_at h11
      clear hw11 A10 Z10 fz
      (try simp only [Exit.inBlock, Exit.then])
      refine bodyPost_ret (v := .tuple #[.agg #[.slice pa vars.length ca, .slice pb parts.length cb, .string order, .bool down, .bool dist, .int .i64 limit], .nilIface]) (results_cell_tmp rfl rfl ?_ rfl) rfl ?_
      · go_simp
      · refine ⟨pa, ca, pb, cb, rfl, Reads.of_owns HE.out.1, ?_, HE.out.2.2⟩
        have := HE.out.2.1
        have hl := takeParts_len parts o
        rw [HD.out.2.2] at hl
        rw [← hl] at this ⊢
        exact Reads.of_owns this
end Go.Proofs.Ytmobdmljbbckiaa
