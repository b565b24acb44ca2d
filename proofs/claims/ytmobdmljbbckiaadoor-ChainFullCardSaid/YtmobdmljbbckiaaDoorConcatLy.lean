/- slices.Grow, slices.Concat at layers. -/
import Derived.Test.YtmobdmljbbckiaaDoorChainPop
namespace Go.Proofs.YtmobdmljbbckiaaDoor
open Go.RowKit
set_option maxHeartbeats 3200000
set_option maxRecDepth 100000

/-- a slice of slices of layers: each reads as its list -/
def ReadsRows (w : World) (v : Value) (ls : List (List PV)) : Prop := ∃ vs : List Value, vs.length = ls.length ∧ Reads (fun u => [u]) w v vs ∧ ∀ j (h : j < vs.length) (h' : j < ls.length), Reads encPV w vs[j] ls[j]

/-- Grow of nil -/
theorem grow_nilP (n : Nat) (hn : n ≤ 100000) (w : World) : Calls Tryd.prog 43 #[.slice none 0 0, .int .i64 n] w fun e w' => ∃ v', e = .returned v' ∧ w'.ownsRow w.heap.size 43 2 v' 0 [] ∧ Ext w w' := by
  obtain ⟨i0, z, hi, hz0, hz1, hz2, hz3⟩ := infoLy
  by_cases h0 : n = 0
  · subst h0
    go_enter Tryd.func43, Tryd.ntmps43
    go_wp2
    go_ret
    exact ⟨_, rfl, World.ownsRow_nil _ _ _ _, Ext.refl _⟩
  · have hpos : 0 < n := by omega
    have hr := Lib.run_append_nil_zeros (P := Tryd.prog) w 62 3 62 43 i0 z .i64 .i64 Tryd.underlying62 Tryd.underlying3 hi hz0 n hpos (by omega) (by omega) (by rw [hz2]; omega)
    have hge := grownCap_ge w n 0 43
    have hle := grownCap_le_maxLen w n 0 43 (by unfold maxLen; omega)
    generalize grownCap w n 0 43 = cap at hr hge hle
    have hown : (w.drew.alloc (.cells (Builtin.zeroCells z.cells n ++ Builtin.zeroCells z.cells (cap - n)) 43)).ownsRow w.heap.size 43 2 (.slice (some ⟨w.heap.size, 0, none⟩) 0 cap) 0 [] := by
      refine ⟨rfl, .inr ⟨w.heap.size, cap, Builtin.zeroCells z.cells n ++ Builtin.zeroCells z.cells (cap - n), rfl, Nat.le_refl _, alloc_heap_new w.drew _, Nat.zero_le _, hle, ?_, by simp⟩⟩
      simp [Builtin.zeroCells, hz3]
      rw [← Nat.add_mul]; congr 1; omega
    have hx : Ext w (w.drew.alloc (.cells (Builtin.zeroCells z.cells n ++ Builtin.zeroCells z.cells (cap - n)) 43)) := (Ext.refl w).drew.alloc _
    generalize World.alloc w.drew _ = w2 at hr hown hx
    have HR := Lib.hid (And.intro hr (And.intro hown hx))
    clear hr hle h0 hz0 hz1 hz2 hz3 hi hown hx
    go_enter Tryd.func43, Tryd.ntmps43
    go_wp2_with (at_builtin; refine Lib.wpList_append_run _ rfl _ _ _ _ rfl _ _ rfl rfl _ _ HR.out.1 ?_)
    go_wp2
    go_ret
    exact ⟨_, rfl, HR.out.2.1, HR.out.2.2⟩

/-- how many the first so many lists have -/
def totToP (ls : List (List PV)) (j : Nat) : Nat := ((ls.take j).map List.length).sum
theorem totTo_succP (ls : List (List PV)) (j : Nat) (h : j < ls.length) : totToP ls (j + 1) = totToP ls j + ls[j].length := by
  unfold totToP
  rw [List.take_succ_eq_append_getElem h, List.map_append, List.sum_append]; simp
theorem totTo_leP (ls : List (List PV)) (j : Nat) : totToP ls j ≤ totToP ls ls.length := by
  unfold totToP
  rw [List.take_length]
  have : ls.map List.length = (ls.take j).map List.length ++ (ls.drop j).map List.length := by rw [← List.map_append, List.take_append_drop]
  rw [this, List.sum_append]; omega
def flatToP (ls : List (List PV)) (j : Nat) : List PV := (ls.take j).flatten
theorem flatTo_succP (ls : List (List PV)) (j : Nat) (h : j < ls.length) : flatToP ls (j + 1) = flatToP ls j ++ ls[j] := by
  unfold flatToP
  rw [List.take_succ_eq_append_getElem h, List.flatten_append]; simp
theorem flatTo_lenP (ls : List (List PV)) (j : Nat) : (flatToP ls j).length = totToP ls j := by
  unfold flatToP totToP; rw [List.length_flatten]

theorem concat_anyP (v : Value) (ls : List (List PV)) (w : World) (hl : ReadsRows w v ls) (hn : totToP ls ls.length ≤ 100000) (h1 : ∀ l ∈ ls, ∀ u ∈ l.flatMap encPV, u.oneCell' = true) : Calls Tryd.prog 28 #[v] w fun e w' =>
    ∃ v', e = .returned v' ∧ w'.ownsRow w.heap.size 43 2 v' ls.flatten.length (ls.flatten.flatMap encPV) ∧ Ext w w' := by
  obtain ⟨i0, z, hi, hz0, hz1, hz2, hz3⟩ := infoLy
  have HO := Lib.hid h1
  clear h1
  obtain ⟨vs, hlen, ⟨a, cap, rfl, hcap, hmax, hcells⟩, hel⟩ := hl
  unfold maxLen at hmax
  have HE := Lib.hid hel
  have HL := Lib.hid hlen
  have HZ := Lib.hid (And.intro hz0 (And.intro hz1 (And.intro hz2 hz3)))
  clear hel hlen hz0 hz1 hz2 hz3
  go_enter Tryd.func28, Tryd.ntmps28
  go_wp2
  go_loop [3, 11] (fun nv jv => ∃ j : Nat, jv = .int .i64 j ∧ nv = .int .i64 (totToP ls j : Nat) ∧ j ≤ vs.length) (fun _ jv => vs.length - (intOf jv).toNat)
  case atStart => exact ⟨0, rfl, rfl, Nat.zero_le _⟩
  case round =>
    obtain ⟨j, rfl, rfl, hj⟩ := hrel
    by_cases hlt : j < vs.length
    · obtain ⟨b, off, rfl, hc⟩ := hcells (fun h => by simp [h] at hlt)
      have hjl : j < ls.length := by have := HL.out; omega
      have c0 := Reads.one_at (enc1 := fun u : Value => u) hc hlt
      obtain ⟨pa, pc, hpv, _⟩ := HE.out j hlt hjl
      rw [hpv] at c0
      have hs := totTo_succP ls j hjl
      have hle := totTo_leP ls (j + 1)
      have HS := Lib.hid hs
      have h1 : totToP ls j + ls[j].length ≤ 100000 := by omega
      have e1 : ((totToP ls j + ls[j].length : Nat) : Int) = (totToP ls j : Int) + (ls[j].length : Int) := by push_cast; rfl
      have HE1 := Lib.hid e1
      clear hc hcells hs hle hpv e1
      generalize totToP ls j = tj at h1 HS HE1 ⊢
      generalize ls[j].length = lj at c0 h1 HS HE1
      go_wp2
      go_round
      case rel => exact ⟨j + 1, vi (by omega), by rw [HS.out, HE1.out], hlt⟩
      case measure => simp [intOf]; omega
    · have hjl : j = vs.length := by omega
      have htot : totToP ls j = totToP ls ls.length := by rw [hjl, HL.out]
      have hgr := grow_nilP (totToP ls j) (by omega) w
      have HT := Lib.hid (And.intro hgr hjl)
      clear htot hgr hjl
      go_wp2_with (go_at_call 43; refine HT.out.1.mono ?_; rintro e w1 ⟨v1, rfl, ho1, hx1⟩)
      clear hlt
      go_loopw [6, 27] (fun sv kv wr => ∃ k : Nat, kv = .int .i64 k ∧ k ≤ vs.length ∧ wr.ownsRow w.heap.size 43 2 sv (totToP ls k) ((flatToP ls k).flatMap encPV) ∧ Ext w wr) (fun _ kv _ => vs.length - (intOf kv).toNat)
      case atStart => exact ⟨0, rfl, Nat.zero_le _, by simpa [totToP, flatToP] using ho1, hx1⟩
      case round =>
        obtain ⟨k, rfl, hk, hown, hx⟩ := hrel
        by_cases hlt : k < vs.length
        · obtain ⟨b, off, rfl, hc⟩ := hcells (fun h => by simp [h] at hlt)
          have hkl : k < ls.length := by have := HL.out; omega
          have c0 := hx.cell (Reads.one_at (enc1 := fun u : Value => u) hc hlt)
          obtain ⟨pa, pc, hpv, hp1, hp2, hp3⟩ := HE.out k hlt hkl
          rw [hpv] at c0
          have hs := totTo_succP ls k hkl
          have hf := flatTo_succP ls k hkl
          have hle := totTo_leP ls (k + 1)
          have h1 : totToP ls k + ls[k].length ≤ 100000 := by omega
          have HS := Lib.hid (And.intro hs (And.intro hf HZ.out))
          clear hc hcells hs hle hpv hf
          cases pa with
          | none =>
            have hnil : ls[k] = [] := by
              cases hq : ls[k] with
              | nil => rfl
              | cons x r =>
                obtain ⟨b', off', h, _⟩ := hp3 (by rw [hq]; simp)
                cases h
            rw [hnil] at c0
            have HN := Lib.hid hnil
            clear hnil hp3
            simp only [List.length_nil] at c0
            go_wp2_with (at_builtin; refine wpList_append_own_no rfl _ _ 62 rfl i0 Tryd.underlying62 hi _ _ _ rfl hown pc rfl ?_)
            go_wp2
            go_roundw
            case rel => exact ⟨k + 1, vi (by omega), hlt, by rw [HS.out.1, HS.out.2.1, HN.out]; simpa using hown, hx⟩
            case measure => simp [intOf]; omega
          | some ad =>
            have hnews : ∀ j u, (ls[k].flatMap encPV)[j]? = some u → wr.cell? (ad.add j) = some u := by
              intro j u hju
              have hne : ls[k] ≠ [] := fun h => by rw [h] at hju; simp at hju
              obtain ⟨b', off', h, hc⟩ := hp3 hne
              cases h
              rw [Go.WideShapes.add_plain]
              exact hx.cell (hc j u hju)
            have HN := Lib.hid hnews
            clear hnews hp3
            go_wp2_with (at_builtin; refine wpList_append_own _ rfl _ _ 62 rfl w.heap.size 43 i0 z 2 48 Tryd.underlying62 hi HZ.out.1 HZ.out.2.1 HZ.out.2.2.1 HZ.out.2.2.2 (by decide) _ _ _ rfl hown ad ls[k].length pc (ls[k].flatMap encPV) rfl ?c1 ?c2 ?c3 ?c4 ?c5 ?c6 ?_)
            case c1 => exact flat_len encPV_len _
            case c2 => exact HN.out
            case c3 => exact HO.out _ (List.getElem_mem hkl)
            case c4 => unfold maxLen; omega
            case c5 => omega
            case c6 => exact hx.size
            intro v' w2 hown' hgrow _
            have hx2 : Ext w w2 := hx.grown hgrow hx.size (fun j hj => (hown.lt j hj).1)
            clear hgrow hown
            go_wp2
            go_roundw
            case rel => exact ⟨k + 1, vi (by omega), hlt, by rw [HS.out.1, HS.out.2.1, List.flatMap_append]; exact hown', hx2⟩
            case measure => simp [intOf]; omega
        · have hkl : k = vs.length := by omega
          have he : flatToP ls k = ls.flatten := by rw [hkl, HL.out]; unfold flatToP; rw [List.take_length]
          have hl : totToP ls k = ls.flatten.length := by rw [← flatTo_lenP, he]
          rw [he, hl] at hown
          clear hcells hkl he hl
          go_wp2
          go_ret
          exact ⟨_, rfl, hown, hx⟩
end Go.Proofs.YtmobdmljbbckiaaDoor
