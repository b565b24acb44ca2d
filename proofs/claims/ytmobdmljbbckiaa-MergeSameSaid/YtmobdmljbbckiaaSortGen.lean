/- What the sort's contract wants of an order, and what it leaves, in the words of a row of one's own. Of whatever program. -/
import Derived.Test.YtmobdmljbbckiaaCmpPure
import Derived.Shelf.SlSortCmp.NoneTotal
namespace Go.Proofs.Ytmobdmljbbckiaa
open Go.RowKit Go.Sort Go.Shelf
set_option maxHeartbeats 1600000
set_option maxRecDepth 100000

theorem LawCmp.swo {α : Type} {c : α → α → Int} (h : LawCmp c) : SWO (ltOf c) where
  irrefl x := by unfold ltOf; rw [h.self]; rfl
  trans x y z h1 h2 := by
    unfold ltOf at *
    simp only [decide_eq_true_eq] at *
    exact h.trans _ _ _ h1 h2
  ntrans x y z h1 h2 := by
    unfold ltOf at *
    simp only [decide_eq_false_iff_not] at *
    intro h3
    have f1 := h.flip x y
    have f2 := h.flip y z
    have f3 := h.flip x z
    have := h.le_trans (a := z) (b := y) (d := x) (by omega) (by omega)
    omega
theorem LawCmp.parts {α : Type} {c : α → α → Int} (h : LawCmp c) (x y : α) (h1 : ltOf c x y = false) (h2 : ltOf c y x = false) : x = y := by
  unfold ltOf at *
  simp only [decide_eq_false_iff_not] at *
  have f1 := h.flip x y
  exact (h.eq _ _).1 (by omega)

theorem flatK_list {α : Type} [Inhabited α] {enc : α → List Value} {k : Nat} (hk : ∀ x, (enc x).length = k) (l : List α) : (flatK enc k l.toArray).toList = l.flatMap enc := by
  apply List.ext_getElem?
  intro t
  by_cases ht : t < l.length * k
  · have hk0 : 0 < k := by
      rcases Nat.eq_zero_or_pos k with h | h
      · subst h; simp at ht
      · exact h
    have h1 := get_flatK enc k l.toArray t (by simpa using ht)
    have hq : t / k < l.length := Nat.div_lt_of_lt_mul (by rw [Nat.mul_comm]; exact ht)
    have hm : t % k < k := Nat.mod_lt _ hk0
    have h2 := flat_get hk l (t / k) (t % k) hq hm
    rw [Nat.mul_comm, Nat.div_add_mod] at h2
    rw [h2, Array.getElem?_toList, Array.getElem?_eq_getElem (by simpa using ht)]
    rw [getElem!_pos _ t (by simpa using ht)] at h1
    rw [h1]
    have e1 : (l.toArray[t / k]! : α) = l[t / k] := by rw [getElem!_pos _ _ (by simpa using hq)]; simp
    rw [e1, getElem!_pos _ _ (by rw [hk]; exact hm), List.getElem?_eq_getElem (by rw [hk]; exact hm)]
  · rw [List.getElem?_eq_none (by simpa using ht), List.getElem?_eq_none (by rw [flat_len hk]; omega)]

/-- a row of the call's own, in the sort's words -/
theorem holdsK_own {α : Type} [Inhabited α] {enc : α → List Value} {k : Nat} (hk : ∀ x, (enc x).length = k) {w : World} {base : Nat} {e : TypeId} {g cap : Nat} {l : List α} (h : w.ownsRow base e k (.slice (some ⟨g, 0, none⟩) l.length cap) l.length (l.flatMap enc)) : HoldsK enc k w g 0 l.toArray := by
  intro j hj
  have hj' : j < l.length * k := by simpa using hj
  refine ⟨?_, by rw [Nat.zero_add]; exact h.frozenAt j⟩
  rw [Nat.zero_add, h.cellAt j hj', ← flatK_list hk l, Array.getElem?_toList, Array.getElem?_eq_getElem hj, getElem!_pos _ j hj]
  rfl
/-- .. and what the sort leaves -/
theorem own_putRowK {α : Type} [Inhabited α] {enc : α → List Value} {k : Nat} (hk : ∀ x, (enc x).length = k) {w : World} {base : Nat} {e : TypeId} {g cap : Nat} {l l' : List α} (h : w.ownsRow base e k (.slice (some ⟨g, 0, none⟩) l.length cap) l.length (l.flatMap enc)) (hl : l'.length = l.length) (n : Nat) (os : Array Obj) :
    (sortWorldK enc k w g 0 n l'.toArray os).ownsRow base e k (.slice (some ⟨g, 0, none⟩) l.length cap) l.length (l'.flatMap enc) ∧ (base ≤ w.heap.size → Below base w (sortWorldK enc k w g 0 n l'.toArray os)) := by
  obtain ⟨h1, ⟨h2, _⟩ | ⟨g', cap', cur, e1, hb, hcur, hnc, hcm, hcs, htk⟩⟩ := h
  · cases h2
  · cases e1
    have hg : g < w.heap.size := (Array.getElem?_eq_some_iff.1 hcur).1
    have hF : (flatK enc k l'.toArray).size = l.length * k := by simp [hl]
    have hle : l.length * k ≤ cur.size := by rw [hcs]; exact Nat.mul_le_mul_right _ hnc
    have hheap : (sortWorldK enc k w g 0 n l'.toArray os).heap[g]? = some (.cells (putCells id 0 (flatK enc k l'.toArray) cur) e (0, 0)) := by
      show (grow (putRowK enc k (Sort.ahead w n) g 0 l'.toArray) os).heap[g]? = _
      rw [heap_grow_old _ _ (by simpa [putRowK] using hg)]
      show ((Sort.ahead w n).heap.modify g _)[g]? = _
      rw [heap_ahead, Array.getElem?_modify]
      simp [hcur, onCells]
    refine ⟨⟨by rw [flat_len hk, hl], .inr ⟨g, cap, _, rfl, hb, hheap, hnc, hcm, ?_, ?_⟩⟩, fun hbw => ⟨rfl, rfl, rfl, ?_, fun i hi => ?_⟩⟩
    · simp [putCells, hcs]
    · rw [← flatK_list hk l']
      apply List.ext_getElem?
      intro t
      rw [List.getElem?_take]
      by_cases ht : t < l.length * k
      · rw [if_pos ht]
        have h3 : t < (flatK enc k l'.toArray).size := by rw [hF]; exact ht
        have hc1 : t < cur.size := by omega
        generalize flatK enc k l'.toArray = F at h3 ⊢
        have h4 : (putCells id 0 F cur)[t]? = some F[t] := by
          rw [putCells, Array.getElem?_mapIdx, Array.getElem?_eq_getElem hc1]
          simp only [Option.map_some, Nat.zero_le, true_and, Nat.zero_add, Nat.sub_zero, id]
          rw [if_pos h3, getElem!_pos F t h3]
        rw [Array.getElem?_toList, h4, Array.getElem?_toList, Array.getElem?_eq_getElem h3]
      · rw [if_neg ht, List.getElem?_eq_none (by rw [Array.length_toList, hF]; omega)]
    · show w.heap.size ≤ (grow (putRowK enc k (Sort.ahead w n) g 0 l'.toArray) os).heap.size
      rw [size_grow]
      simp [putRowK]
    · show (grow (putRowK enc k (Sort.ahead w n) g 0 l'.toArray) os).heap[i]? = _
      rw [heap_grow_old _ _ (by simp [putRowK]; omega)]
      show ((Sort.ahead w n).heap.modify g _)[i]? = _
      rw [heap_ahead, Array.getElem?_modify, if_neg (by omega)]

end Go.Proofs.Ytmobdmljbbckiaa
