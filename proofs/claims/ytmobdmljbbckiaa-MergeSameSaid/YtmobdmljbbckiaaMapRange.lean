/- A range over a map under way: what has come, in order. Of whatever program. -/
import Derived.Test.YtmobdmljbbckiaaMapLaws
import Derived.Maps.RangeRun
import Derived.RangeFuncSeq
import Derived.Maps.Range
namespace Go.Proofs.Ytmobdmljbbckiaa
open Go.RowKit Go.MapKept Go.WideElems Go.WideMaps Go.ChangeMaps Go.ChangeShapes Go.WideShapes Go.Maps

/-- block b is a map that holds l; block r is a range over it, of which 'done' has come -/
def MapRange (P : Program) (kt : TypeId) (w : World) (b r : Nat) (l done : List (Value × Value)) : Prop :=
  ∃ (es : Array MapEntry) (clock since : Nat) (seen : Array Nat) (c0 : Nat) (ds : List MapEntry), w.heap[b]? = some (.map es clock) ∧ es.toList.map (fun e => (e.key, e.val)) = l ∧ Stamped es clock ∧ (∀ x ∈ es.toList, ∃ l, keyOf P kt x.key = some l) ∧
    w.heap[r]? = some (.mapIter (some b) since seen c0) ∧ (∀ x ∈ es.toList, x.born < since) ∧ since ≤ c0 ∧ since ≤ clock ∧
    ds.map (fun e => (e.key, e.val)) = done ∧ ds.Nodup ∧ (∀ d ∈ ds, d ∈ es.toList) ∧ seen.toList = ds.map (·.born)

section
variable {P : Program} {kt : TypeId} {w : World} {b r : Nat} {l done : List (Value × Value)}

theorem MapRange.at (h : MapRange P kt w b r l done) : MapAt P kt w b l := by
  obtain ⟨es, clock, since, seen, c0, ds, h1, h2, h3, h4, _⟩ := h
  exact ⟨es, clock, h1, h2, h3, h4⟩
theorem MapRange.walks {w' : World} (h : MapRange P kt w b r l done) (hk : KeepsWalks w w') : MapRange P kt w' b r l done := by
  obtain ⟨es, clock, since, seen, c0, ds, h1, h2, h3, h4, h5, rest⟩ := h
  exact ⟨es, clock, since, seen, c0, ds, hk.same b _ h1 rfl, h2, h3, h4, hk.same r _ h5 rfl, rest⟩
theorem MapRange.same {w' : World} (h : MapRange P kt w b r l done) (hb : w'.heap[b]? = w.heap[b]?) (hr : w'.heap[r]? = w.heap[r]?) : MapRange P kt w' b r l done := by
  obtain ⟨es, clock, since, seen, c0, ds, h1, h2, h3, h4, h5, rest⟩ := h
  exact ⟨es, clock, since, seen, c0, ds, hb.trans h1, h2, h3, h4, hr.trans h5, rest⟩
theorem MapRange.lt (h : MapRange P kt w b r l done) : r < w.heap.size := by
  obtain ⟨es, clock, since, seen, c0, ds, h1, h2, h3, h4, h5, rest⟩ := h
  exact (Array.getElem?_eq_some_iff.1 h5).1
theorem MapRange.ext {w' : World} (h : MapRange P kt w b r l done) (hx : Ext w w') : MapRange P kt w' b r l done := h.same (hx.block b h.at.lt) (hx.block r h.lt)
theorem MapRange.iter (h : MapRange P kt w b r l done) : ∃ o : Obj, w.heap[r]? = some o ∧ o.isWalk = true := by
  obtain ⟨es, clock, since, seen, c0, ds, h1, h2, h3, h4, h5, rest⟩ := h
  exact ⟨_, h5, rfl⟩
theorem MapRange.ne (h : MapRange P kt w b r l done) : r ≠ b := by
  obtain ⟨es, clock, since, seen, c0, ds, h1, h2, h3, h4, h5, rest⟩ := h
  rintro rfl
  rw [h1] at h5; cases h5
theorem rangeLeft_same {w' : World} {b r : Nat} (hb : w'.heap[b]? = w.heap[b]?) (hr : w'.heap[r]? = w.heap[r]?) : w'.rangeLeft b r = w.rangeLeft b r := by
  unfold World.rangeLeft; rw [hb, hr]
theorem MapRange.left_walks {w' : World} (h : MapRange P kt w b r l done) (hk : KeepsWalks w w') : w'.rangeLeft b r = w.rangeLeft b r := by
  obtain ⟨es, clock, since, seen, c0, ds, h1, h2, h3, h4, h5, rest⟩ := h
  exact rangeLeft_same ((hk.same b _ h1 rfl).trans h1.symm) ((hk.same r _ h5 rfl).trans h5.symm)

/-- 'range m' -/
theorem MapAt.range {t et : TypeId} (h : MapAt P kt w b l) (ht : P.underlying t = some (.map kt et)) :
    ∃ w', (Instr.range t (.map (some b))).run P w = .ok (.pointer (some ⟨w.heap.size, 0, none⟩)) w' ∧ MapRange P kt w' b w.heap.size l [] ∧ Ext w w' ∧ w.grownBy w' none ∧ w'.heap.size = w.heap.size + 1 := by
  have hlt := h.lt
  obtain ⟨es, clock, hb, h2, h3, h4⟩ := h
  refine ⟨_, run_range_map w t kt et b es clock ht hb, ⟨es, clock, clock, #[], clock, [], ((MapKept.heap_alloc w _).2 b hlt).trans hb, h2, h3, h4, (MapKept.heap_alloc w _).1, ((stamped_iff es clock).1 h3).1, Nat.le_refl _, Nat.le_refl _, rfl, List.nodup_nil, (fun d hd => by cases hd), rfl⟩, (Ext.refl w).alloc _, World.grownBy_alloc w _ none, by simp⟩

theorem nodup_le {α : Type} : ∀ (a b : List α), a.Nodup → (∀ x ∈ a, x ∈ b) → a.length ≤ b.length
  | [], _, _, _ => Nat.zero_le _
  | x :: a, b, hn, h => by
    obtain ⟨s, t, rfl⟩ := List.append_of_mem (h x (List.mem_cons_self ..))
    obtain ⟨h1, h2⟩ := List.nodup_cons.1 hn
    have := nodup_le a (s ++ t) h2 fun y hy => by
      have := h y (List.mem_cons_of_mem _ hy)
      simp only [List.mem_append, List.mem_cons] at this ⊢
      rcases this with h3 | rfl | h3
      · exact .inl h3
      · exact absurd hy h1
      · exact .inr h3
    simp only [List.length_append, List.length_cons] at this ⊢
    omega
theorem contains_born {ds : List MapEntry} {seen : Array Nat} (h : seen.toList = ds.map (·.born)) (n : Nat) : seen.contains n = true ↔ ∃ d ∈ ds, d.born = n := by
  rw [Array.contains_iff_mem, ← Array.mem_toList_iff, h, List.mem_map]

/-- the step: nothing is left, or one that has not come yet comes -/
theorem MapRange.next (h : MapRange P kt w b r l done) (ty : TypeId) :
    (done.Perm l ∧ (Instr.next (.pointer (some ⟨r, 0, none⟩)) false ty).run P w = .ok (.tuple #[.bool false]) w) ∨
    ∃ key v w', (key, v) ∈ l ∧ (∀ x ∈ done, x.1 ≠ key) ∧ done.length < l.length ∧ (Instr.next (.pointer (some ⟨r, 0, none⟩)) false ty).run P w = .ok (.tuple #[.bool true, key, v]) w' ∧
      MapRange P kt w' b r l (done ++ [(key, v)]) ∧ w'.rangeLeft b r < w.rangeLeft b r ∧ w.grownBy w' (some r) ∧ w'.heap.size = w.heap.size ∧ (Instr.entry (.pointer (some ⟨r, 0, none⟩))).run P w' = .ok (.tuple #[key, v]) w' := by
  have hne := h.ne
  obtain ⟨es, clock, since, seen, c0, ds, hb, hl, hst, hks, hr, hold, hsc, hsk, hdone, hnd, hds, hseen⟩ := h
  have hs := (stamped_iff es clock).1 hst
  have hesn : es.toList.Nodup := by
    have := hs.2.1
    unfold List.Nodup at this ⊢
    rw [List.pairwise_map] at this
    exact this.imp fun {x y} hxy e => hxy (by rw [e])
  rcases run_next_at (P := P) w ty r b since c0 seen es clock hr hb hold hsc with ⟨h0, hrun⟩ | ⟨e, he, w1, hal, hrun⟩
  · refine .inl ⟨?_, hrun⟩
    rw [← hdone, ← hl]
    refine List.Perm.map _ ((List.perm_ext_iff_of_nodup hnd hesn).2 fun x => ⟨hds x, fun hx => ?_⟩)
    obtain ⟨d, hd, hdb⟩ := (contains_born hseen x.born).1 (all_seen es seen h0 x hx)
    rw [← born_inj hs.2.1 (hds d hd) hx hdb]
    exact hd
  · obtain ⟨hem, hes⟩ := mem_left he
    have hr1 : w1.heap[r]? = some (.mapIter (some b) since seen c0) := by rcases hal with rfl | rfl <;> exact hr
    have hb1 : w1.heap[b]? = some (.map es clock) := by rcases hal with rfl | rfl <;> exact hb
    have hset := heap_set (o' := .mapIter (some b) since (seen.push e.born) clock) hr1
    have hb' : (setBlock w1 r (.mapIter (some b) since (seen.push e.born) clock)).heap[b]? = some (.map es clock) := (hset.2 b (fun e1 => hne e1.symm)).trans hb1
    have heds : e ∉ ds := fun hin => by
      have := (contains_born hseen e.born).2 ⟨e, hin, rfl⟩
      rw [hes] at this; cases this
    have hsub : (ds ++ [e]).length ≤ es.toList.length := by
      refine nodup_le _ _ ?_ ?_
      · rw [List.nodup_append]
        exact ⟨hnd, by simp, fun x hx y hy e1 => by simp at hy; subst hy; subst e1; exact heds hx⟩
      · intro x hx
        rcases List.mem_append.1 hx with hx | hx
        · exact hds x hx
        · simp at hx; subst hx; exact hem
    refine .inr ⟨e.key, e.val, _, ?_, ?_, ?_, hrun, ⟨es, clock, since, seen.push e.born, clock, ds ++ [e], hb', hl, hst, hks, hset.1, hold, hsk, hsk, by simp [hdone], ?_, ?_, by simp [hseen]⟩, ?_, ?_, ?_,
      run_entry_at _ r b since seen es clock e hset.1 hb' hem hs.2.1⟩
    · rw [← hl]; exact List.mem_map.2 ⟨e, hem, rfl⟩
    · intro x hx hk
      rw [← hdone] at hx
      obtain ⟨d, hd, rfl⟩ := List.mem_map.1 hx
      exact heds (by rw [← entry_eq_of_key hs.2.2 (hds d hd) hem hk]; exact hd)
    · rw [← hdone, ← hl, List.length_map, List.length_map]
      rw [List.length_append] at hsub
      simp only [List.length_cons, List.length_nil] at hsub
      omega
    · rw [List.nodup_append]
      exact ⟨hnd, by simp, fun x hx y hy e1 => by simp at hy; subst hy; subst e1; exact heds hx⟩
    · intro x hx
      rcases List.mem_append.1 hx with hx | hx
      · exact hds x hx
      · simp at hx; subst hx; exact hem
    · have e1 : (setBlock w1 r (.mapIter (some b) since (seen.push e.born) clock)).rangeLeft b r = (leftOf es (seen.push e.born)).size := by
        simp only [World.rangeLeft, hb']
        rw [show (setBlock w1 r (.mapIter (some b) since (seen.push e.born) clock)).heap[r]? = _ from hset.1]
      have e2 : w.rangeLeft b r = (leftOf es seen).size := by simp only [World.rangeLeft, hb, hr]
      rw [e1, e2]
      exact left_shrinks es seen e he
    · rcases hal with rfl | rfl <;> exact ⟨rfl, rfl, rfl, by simp [setBlock], fun i _ hi => hset.2 i (fun e1 => hi (by rw [e1]))⟩
    · rcases hal with rfl | rfl <;> simp [setBlock]
/-- .. of whatever type it is told -/
theorem MapRange.nextAll (h : MapRange P kt w b r l done) :
    (done.Perm l ∧ ∀ ty, (Instr.next (.pointer (some ⟨r, 0, none⟩)) false ty).run P w = .ok (.tuple #[.bool false]) w) ∨
    ∃ key v w', (key, v) ∈ l ∧ done.length < l.length ∧ (∀ ty, (Instr.next (.pointer (some ⟨r, 0, none⟩)) false ty).run P w = .ok (.tuple #[.bool true, key, v]) w') ∧
      MapRange P kt w' b r l (done ++ [(key, v)]) ∧ w'.rangeLeft b r < w.rangeLeft b r ∧ w.grownBy w' (some r) ∧ w'.heap.size = w.heap.size ∧ (Instr.entry (.pointer (some ⟨r, 0, none⟩))).run P w' = .ok (.tuple #[key, v]) w' := by
  rcases h.next 0 with ⟨h1, h2⟩ | ⟨key, v, w', h1, _, h2, h3, h4⟩
  · exact .inl ⟨h1, fun _ => h2⟩
  · exact .inr ⟨key, v, w', h1, h2, fun _ => h3, h4⟩
end
end Go.Proofs.Ytmobdmljbbckiaa
