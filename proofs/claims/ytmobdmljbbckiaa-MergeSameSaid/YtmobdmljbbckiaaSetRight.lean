/- set.Right. -/
import Derived.Test.YtmobdmljbbckiaaSorted
import Derived.Test.YtmobdmljbbckiaaLayerPure
namespace Go.Proofs.Ytmobdmljbbckiaa
open Go.RowKit
set_option maxHeartbeats 3200000
set_option maxRecDepth 100000

/-- a slice of slices of triples: each reads as its list -/
def ReadsSets (w : World) (v : Value) (ls : List (List Tr)) : Prop := ∃ vs : List Value, vs.length = ls.length ∧ Reads (fun u => [u]) w v vs ∧ ∀ j (h : j < vs.length) (h' : j < ls.length), Reads encTr w vs[j] ls[j]
theorem ReadsSets.ext {w w' : World} {v : Value} {ls : List (List Tr)} (h : ReadsSets w v ls) (e : Ext w w') : ReadsSets w' v ls := by
  obtain ⟨vs, h1, h2, h3⟩ := h
  exact ⟨vs, h1, h2.ext e, fun j h h' => (h3 j h h').ext e⟩

theorem rightErr_at (ls : List (List Tr)) : rightErr ls = firstErr (fun i => setErr (ls.getD i [])) ls.length := by
  suffices H : ∀ (ls pre : List (List Tr)), firstErr (fun i => setErr ((pre ++ ls).getD i [])) (pre.length + ls.length) = (firstErr (fun i => setErr (pre.getD i [])) pre.length).or (rightErr ls) by
    have := H ls []
    simp only [List.nil_append, List.length_nil, Nat.zero_add, firstErr, Option.none_or] at this
    exact this.symm
  intro ls
  induction ls with
  | nil => intro pre; simp [rightErr]
  | cons l ls ih =>
    intro pre
    have := ih (pre ++ [l])
    simp only [List.append_assoc, List.singleton_append, List.length_append, List.length_cons, List.length_nil, Nat.zero_add] at this
    rw [List.length_cons, show pre.length + (ls.length + 1) = pre.length + 1 + ls.length by omega, this, rightErr]
    rw [firstErr]
    have e1 : firstErr (fun i => setErr ((pre ++ [l]).getD i [])) pre.length = firstErr (fun i => setErr (pre.getD i [])) pre.length := by
      have : ∀ n, n ≤ pre.length → firstErr (fun i => setErr ((pre ++ [l]).getD i [])) n = firstErr (fun i => setErr (pre.getD i [])) n := by
        intro n
        induction n with
        | zero => intro _; rfl
        | succ n ihn =>
          intro hn
          rw [firstErr, firstErr, ihn (by omega)]
          simp [List.getD, List.getElem?_append_left (show n < pre.length by omega)]
      exact this _ (Nat.le_refl _)
    rw [e1]
    have e2 : (pre ++ [l]).getD pre.length [] = l := by simp [List.getD]
    rw [e2]
    cases firstErr (fun i => setErr (pre.getD i [])) pre.length <;> cases setErr l <;> rfl

theorem right_any (v : Value) (ls : List (List Tr)) (w : World) (hl : ReadsSets w v ls) : Calls Try.prog 43 #[v] w fun e w' => e = .returned (errV (rightErr ls)) ∧ Ext w w' := by
  rw [rightErr_at]
  obtain ⟨vs, hlen, ⟨a, cap, rfl, hcap, hmax, hcells⟩, hel⟩ := hl
  unfold maxLen at hmax
  have HE := Lib.hid hel
  have HL := Lib.hid hlen
  clear hel hlen
  go_enter Try.func43, Try.ntmps43
  go_wp2
  go_loopw [8] (fun jv wr => ∃ j : Nat, jv = .int .i64 j ∧ j ≤ vs.length ∧ Hid (∀ i, i < j → setErr (ls.getD i []) = none) ∧ Ext w wr) (fun jv _ => vs.length - (intOf jv).toNat)
  case atStart => exact ⟨0, rfl, Nat.zero_le _, fun i hi => absurd hi (Nat.not_lt_zero _), Ext.refl _⟩
  case round =>
    obtain ⟨j, rfl, hj, hb, hx⟩ := hrel
    by_cases hlt : j < vs.length
    · obtain ⟨b, off, rfl, hc⟩ := hcells (fun h => by simp [h] at hlt)
      have hjl : j < ls.length := by have := HL.out; omega
      have hel := HE.out j hlt hjl
      have c0 := hx.cell (Reads.one_at (enc1 := fun u : Value => u) hc hlt)
      have hso := fun W (h : Ext wr W) => sorted_any vs[j] ls[j] W (hel.ext (hx.trans h))
      have hgd : ls.getD j [] = ls[j] := getD_at hjl _
      obtain ⟨pa, pc, hpv, _⟩ := hel
      rw [hpv] at c0 hso
      clear hc hcells hpv
      cases hE : setErr ls[j] with
      | some n =>
        rw [hE] at hso
        dsimp only [errV] at hso
        have hfin := firstErr_hit (f := fun i => setErr (ls.getD i [])) (k := j) (e := n) (by rw [hgd]; exact hE) hb.out (n := ls.length) hjl
        have HF := Lib.hid (And.intro hfin hso)
        clear hfin hso hgd hE
        go_wp2_with (go_at_call 17; refine (HF.out.2 _ (Ext.refl _)).mono ?_; rintro e w1 ⟨rfl, hx1⟩)
        go_ret
        exact ⟨by rw [HF.out.1]; rfl, hx.trans hx1⟩
      | none =>
        rw [hE] at hso
        dsimp only [errV] at hso
        have HF := Lib.hid (And.intro hso (And.intro hgd hE))
        clear hso hgd hE
        go_wp2_with (go_at_call 17; refine (HF.out.1 _ (Ext.refl _)).mono ?_; rintro e w1 ⟨rfl, hx1⟩)
        go_roundw
        case rel =>
          refine ⟨j + 1, vi (by omega), hlt, (fun i hi => ?_), hx.trans hx1⟩
          by_cases e : i = j
          · subst e; rw [HF.out.2.1]; exact HF.out.2.2
          · exact hb.out i (by omega)
        case measure => simp [intOf]; omega
    · have hjl : j = vs.length := by omega
      subst hjl
      clear hcells
      have hfin := firstErr_miss (f := fun i => setErr (ls.getD i [])) hb.out
      rw [HL.out] at hfin
      have HF := Lib.hid hfin
      clear hfin
      go_wp2
      go_ret
      exact ⟨by rw [HF.out]; rfl, hx⟩
theorem readsSets_new (w : World) (vs : List Value) (ls : List (List Tr)) (hl : vs.length = ls.length) (hn : vs.length ≤ 1000) (h : ∀ j (h : j < vs.length) (h' : j < ls.length), Reads encTr w vs[j] ls[j]) :
    ReadsSets (w.alloc (.cells vs.toArray 22)) (.slice (some ⟨w.heap.size, 0, none⟩) vs.length vs.length) ls := by
  refine ⟨vs, hl, ⟨_, vs.length, rfl, Nat.le_refl _, by unfold maxLen; omega, fun _ => ⟨_, 0, rfl, fun i u hi => ?_⟩⟩, fun j h1 h2 => (h j h1 h2).ext ((Ext.refl w).alloc _)⟩
  have := cells_new w vs.toArray 22 w.heap.size rfl i u (by simpa [List.flatMap_singleton'] using hi)
  rw [Go.WideShapes.add_plain] at this
  exact this

end Go.Proofs.Ytmobdmljbbckiaa
