/- slices.Grow, slices.Concat at triples. -/
import Derived.Test.YtmobdmljbbckiaaDoorSetPart
import Derived.Lib.AppendZeros
namespace Go.Proofs.YtmobdmljbbckiaaDoor
open Go.RowKit
set_option maxHeartbeats 3200000
set_option maxRecDepth 100000

section
variable {P : Program} {w : World} {base : Nat} {e : TypeId} {size : Nat}
/-- an append of a slice that has no address -/
theorem run_append_own_no (t ty : TypeId) (i : TypeInfo) (ht : P.underlying t = some (.slice e)) (hi : P.info? e = some i)
    (v : Value) (n : Nat) (xs : List Value) (hown : w.ownsRow base e size v n xs) (c : Nat) :
    (Builtin.append_ #[t, t] ty #[v, .slice none 0 c]).run P w = .ok v w := by
  rcases hown.2 with ⟨rfl, rfl⟩ | ⟨g, cap, cur, rfl, _, _, hnc, _⟩
  · simp [Builtin.append_, run_underlying ht, sizeOf, typeInfo, hi, Builtin.lenOf, Builtin.firstCells]
  · simp [Builtin.append_, run_underlying ht, sizeOf, typeInfo, hi, Builtin.lenOf, Builtin.firstCells, hnc, storeCells]
theorem wpList_append_own_no {ops : Array Oper} {rest : List Oper} {o : Oper} {a : Act} {Q : Exit → Act → World → Prop} (hgd : o.guard = none) (s x : Operand) (t : TypeId)
    (ho : o.op = .call { callee := .builtin .append, args := #[s, x], argTypes := #[t, t] })
    (i : TypeInfo) (ht : P.underlying t = some (.slice e)) (hi : P.info? e = some i)
    (v : Value) (n : Nat) (xs : List Value) (hs : a.eval s = v) (hown : w.ownsRow base e size v n xs) (c : Nat) (hx : a.eval x = .slice none 0 c)
    (h : wpList P ops Q rest (a.put o.dst v) w) : wpList P ops Q (o :: rest) a w := by
  refine wpList_plain hgd fun K hK => ?_
  have hrun := run_append_own_no (P := P) (w := w) t o.type i ht hi v n xs hown c
  unfold Oper.wp
  simp [execOp, ho, resolve, invoke, builtin, hs, hx, hrun, Result.andThen]
  exact hK _ _ h
end

theorem infoTr : ∃ i z, Tryd.prog.info? 28 = some i ∧ i.zero = some z ∧ i.size = 9 ∧ i.bytes = 120 ∧ z.cells.size = 9 := ⟨_, _, rfl, rfl, rfl, rfl, rfl⟩

/-- Grow of nil -/
theorem grow_nil (n : Nat) (hn : n ≤ 100000) (w : World) : Calls Tryd.prog 45 #[.slice none 0 0, .int .i64 n] w fun e w' => ∃ v', e = .returned v' ∧ w'.ownsRow w.heap.size 28 9 v' 0 [] ∧ Ext w w' := by
  obtain ⟨i0, z, hi, hz0, hz1, hz2, hz3⟩ := infoTr
  by_cases h0 : n = 0
  · subst h0
    go_enter Tryd.func45, Tryd.ntmps45
    go_wp2
    go_ret
    exact ⟨_, rfl, World.ownsRow_nil _ _ _ _, Ext.refl _⟩
  · have hpos : 0 < n := by omega
    have hr := Lib.run_append_nil_zeros (P := Tryd.prog) w 22 3 22 28 i0 z .i64 .i64 Tryd.underlying22 Tryd.underlying3 hi hz0 n hpos (by omega) (by omega) (by rw [hz2]; omega)
    have hge := grownCap_ge w n 0 28
    have hle := grownCap_le_maxLen w n 0 28 (by unfold maxLen; omega)
    generalize grownCap w n 0 28 = cap at hr hge hle
    have hown : (w.drew.alloc (.cells (Builtin.zeroCells z.cells n ++ Builtin.zeroCells z.cells (cap - n)) 28)).ownsRow w.heap.size 28 9 (.slice (some ⟨w.heap.size, 0, none⟩) 0 cap) 0 [] := by
      refine ⟨rfl, .inr ⟨w.heap.size, cap, Builtin.zeroCells z.cells n ++ Builtin.zeroCells z.cells (cap - n), rfl, Nat.le_refl _, alloc_heap_new w.drew _, Nat.zero_le _, hle, ?_, by simp⟩⟩
      simp [Builtin.zeroCells, hz3]
      rw [← Nat.add_mul]; congr 1; omega
    have hx : Ext w (w.drew.alloc (.cells (Builtin.zeroCells z.cells n ++ Builtin.zeroCells z.cells (cap - n)) 28)) := (Ext.refl w).drew.alloc _
    generalize World.alloc w.drew _ = w2 at hr hown hx
    have HR := Lib.hid (And.intro hr (And.intro hown hx))
    clear hr hle h0 hz0 hz1 hz2 hz3 hi hown hx
    go_enter Tryd.func45, Tryd.ntmps45
    go_wp2_with (at_builtin; refine Lib.wpList_append_run _ rfl _ _ _ _ rfl _ _ rfl rfl _ _ HR.out.1 ?_)
    go_wp2
    go_ret
    exact ⟨_, rfl, HR.out.2.1, HR.out.2.2⟩

/-- how many the first so many lists have -/
def totTo (ls : List (List Tr)) (j : Nat) : Nat := ((ls.take j).map List.length).sum
theorem totTo_succ (ls : List (List Tr)) (j : Nat) (h : j < ls.length) : totTo ls (j + 1) = totTo ls j + ls[j].length := by
  unfold totTo
  rw [List.take_succ_eq_append_getElem h, List.map_append, List.sum_append]; simp
theorem totTo_le (ls : List (List Tr)) (j : Nat) : totTo ls j ≤ totTo ls ls.length := by
  unfold totTo
  rw [List.take_length]
  have : ls.map List.length = (ls.take j).map List.length ++ (ls.drop j).map List.length := by rw [← List.map_append, List.take_append_drop]
  rw [this, List.sum_append]; omega
def flatTo (ls : List (List Tr)) (j : Nat) : List Tr := (ls.take j).flatten
theorem flatTo_succ (ls : List (List Tr)) (j : Nat) (h : j < ls.length) : flatTo ls (j + 1) = flatTo ls j ++ ls[j] := by
  unfold flatTo
  rw [List.take_succ_eq_append_getElem h, List.flatten_append]; simp
theorem flatTo_len (ls : List (List Tr)) (j : Nat) : (flatTo ls j).length = totTo ls j := by
  unfold flatTo totTo; rw [List.length_flatten]

theorem concat_any (v : Value) (ls : List (List Tr)) (w : World) (hl : ReadsSets w v ls) (hn : totTo ls ls.length ≤ 100000) : Calls Tryd.prog 30 #[v] w fun e w' =>
    ∃ v', e = .returned v' ∧ w'.ownsRow w.heap.size 28 9 v' ls.flatten.length (ls.flatten.flatMap encTr) ∧ Ext w w' := by
  obtain ⟨i0, z, hi, hz0, hz1, hz2, hz3⟩ := infoTr
  obtain ⟨vs, hlen, ⟨a, cap, rfl, hcap, hmax, hcells⟩, hel⟩ := hl
  unfold maxLen at hmax
  have HE := Lib.hid hel
  have HL := Lib.hid hlen
  have HZ := Lib.hid (And.intro hz0 (And.intro hz1 (And.intro hz2 hz3)))
  clear hel hlen hz0 hz1 hz2 hz3
  go_enter Tryd.func30, Tryd.ntmps30
  go_wp2
  go_loop [3, 11] (fun nv jv => ∃ j : Nat, jv = .int .i64 j ∧ nv = .int .i64 (totTo ls j : Nat) ∧ j ≤ vs.length) (fun _ jv => vs.length - (intOf jv).toNat)
  case atStart => exact ⟨0, rfl, rfl, Nat.zero_le _⟩
  case round =>
    obtain ⟨j, rfl, rfl, hj⟩ := hrel
    by_cases hlt : j < vs.length
    · obtain ⟨b, off, rfl, hc⟩ := hcells (fun h => by simp [h] at hlt)
      have hjl : j < ls.length := by have := HL.out; omega
      have c0 := Reads.one_at (enc1 := fun u : Value => u) hc hlt
      obtain ⟨pa, pc, hpv, _⟩ := HE.out j hlt hjl
      rw [hpv] at c0
      have hs := totTo_succ ls j hjl
      have hle := totTo_le ls (j + 1)
      have HS := Lib.hid hs
      have h1 : totTo ls j + ls[j].length ≤ 100000 := by omega
      have e1 : ((totTo ls j + ls[j].length : Nat) : Int) = (totTo ls j : Int) + (ls[j].length : Int) := by push_cast; rfl
      have HE1 := Lib.hid e1
      clear hc hcells hs hle hpv e1
      generalize totTo ls j = tj at h1 HS HE1 ⊢
      generalize ls[j].length = lj at c0 h1 HS HE1
      go_wp2
      go_round
      case rel => exact ⟨j + 1, vi (by omega), by rw [HS.out, HE1.out], hlt⟩
      case measure => simp [intOf]; omega
    · have hjl : j = vs.length := by omega
      have htot : totTo ls j = totTo ls ls.length := by rw [hjl, HL.out]
      have hgr := grow_nil (totTo ls j) (by omega) w
      have HT := Lib.hid (And.intro hgr hjl)
      clear htot hgr hjl
      go_wp2_with (go_at_call 45; refine HT.out.1.mono ?_; rintro e w1 ⟨v1, rfl, ho1, hx1⟩)
      clear hlt
      go_loopw [6, 27] (fun sv kv wr => ∃ k : Nat, kv = .int .i64 k ∧ k ≤ vs.length ∧ wr.ownsRow w.heap.size 28 9 sv (totTo ls k) ((flatTo ls k).flatMap encTr) ∧ Ext w wr) (fun _ kv _ => vs.length - (intOf kv).toNat)
      case atStart => exact ⟨0, rfl, Nat.zero_le _, by simpa [totTo, flatTo] using ho1, hx1⟩
      case round =>
        obtain ⟨k, rfl, hk, hown, hx⟩ := hrel
        by_cases hlt : k < vs.length
        · obtain ⟨b, off, rfl, hc⟩ := hcells (fun h => by simp [h] at hlt)
          have hkl : k < ls.length := by have := HL.out; omega
          have c0 := hx.cell (Reads.one_at (enc1 := fun u : Value => u) hc hlt)
          obtain ⟨pa, pc, hpv, hp1, hp2, hp3⟩ := HE.out k hlt hkl
          rw [hpv] at c0
          have hs := totTo_succ ls k hkl
          have hf := flatTo_succ ls k hkl
          have hle := totTo_le ls (k + 1)
          have h1 : totTo ls k + ls[k].length ≤ 100000 := by omega
          have HS := Lib.hid (And.intro hs (And.intro hf HZ.out))
          clear hc hcells hs hle hpv hf
          cases pa with
          | none =>
            have hnil : ls[k] = [] := by
              cases hq : ls[k] with
              | nil => rfl
              | cons x r =>
                obtain ⟨b', off', h, _⟩ := hp3 (by rw [hq]; simp)
                cases h
            rw [hnil] at c0
            have HN := Lib.hid hnil
            clear hnil hp3
            simp only [List.length_nil] at c0
            go_wp2_with (at_builtin; refine wpList_append_own_no rfl _ _ 22 rfl i0 Tryd.underlying22 hi _ _ _ rfl hown pc rfl ?_)
            go_wp2
            go_roundw
            case rel => exact ⟨k + 1, vi (by omega), hlt, by rw [HS.out.1, HS.out.2.1, HN.out]; simpa using hown, hx⟩
            case measure => simp [intOf]; omega
          | some ad =>
            have hnews : ∀ j u, (ls[k].flatMap encTr)[j]? = some u → wr.cell? (ad.add j) = some u := by
              intro j u hju
              have hne : ls[k] ≠ [] := fun h => by rw [h] at hju; simp at hju
              obtain ⟨b', off', h, hc⟩ := hp3 hne
              cases h
              rw [Go.WideShapes.add_plain]
              exact hx.cell (hc j u hju)
            have HN := Lib.hid hnews
            clear hnews hp3
            go_wp2_with (at_builtin; refine wpList_append_own _ rfl _ _ 22 rfl w.heap.size 28 i0 z 9 120 Tryd.underlying22 hi HZ.out.1 HZ.out.2.1 HZ.out.2.2.1 HZ.out.2.2.2 (by decide) _ _ _ rfl hown ad ls[k].length pc (ls[k].flatMap encTr) rfl ?c1 ?c2 ?c3 ?c4 ?c5 ?c6 ?_)
            case c1 => exact flat_len encTr_len _
            case c2 => exact HN.out
            case c3 => exact encTr_one _
            case c4 => unfold maxLen; omega
            case c5 => omega
            case c6 => exact hx.size
            intro v' w2 hown' hgrow _
            have hx2 : Ext w w2 := hx.grown hgrow hx.size (fun j hj => (hown.lt j hj).1)
            clear hgrow hown
            go_wp2
            go_roundw
            case rel => exact ⟨k + 1, vi (by omega), hlt, by rw [HS.out.1, HS.out.2.1, List.flatMap_append]; exact hown', hx2⟩
            case measure => simp [intOf]; omega
        · have hkl : k = vs.length := by omega
          have he : flatTo ls k = ls.flatten := by rw [hkl, HL.out]; unfold flatTo; rw [List.take_length]
          have hl : totTo ls k = ls.flatten.length := by rw [← flatTo_len, he]
          rw [he, hl] at hown
          clear hcells hkl he hl
          go_wp2
          go_ret
          exact ⟨_, rfl, hown, hx⟩
end Go.Proofs.YtmobdmljbbckiaaDoor
