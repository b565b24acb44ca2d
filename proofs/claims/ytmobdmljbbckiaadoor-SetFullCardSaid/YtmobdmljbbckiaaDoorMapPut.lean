/- A store into a map at a key that is there. Of whatever program. -/
import Derived.Test.YtmobdmljbbckiaaDoorMapLaws
namespace Go.Proofs.YtmobdmljbbckiaaDoor
open Go.RowKit Go.MapKept Go.WideElems Go.WideMaps Go.ChangeMaps Go.ChangeShapes Go.WideShapes Go.Maps

section
variable {P : Program} {w : World} {t kt et : TypeId} {b : Nat} {l : List (Value × Value)}
theorem MapAt.keys_nodup (h : MapAt P kt w b l) : (l.map (·.1)).Nodup := by
  obtain ⟨es, clock, hb, rfl, hs, hks⟩ := h
  have hp := ((stamped_iff es clock).1 hs).2.2
  unfold List.Nodup
  rw [List.map_map, List.pairwise_map]
  exact hp
theorem list_modify_set {α : Type} (f : α → α) : ∀ (l : List α) (j : Nat) (h : j < l.length), l.modify j f = l.set j (f l[j])
  | x :: l, 0, _ => by simp
  | x :: l, j + 1, h => by
    have := list_modify_set f l j (by simpa using h)
    simp [List.modify_succ_cons, this]
theorem MapAt.put_hit (h : MapAt P kt w b l) (hm : P.underlying t = some (.map kt et)) (K : Keyed P kt) {key : Value} {kl : Lit} (hk : keyOf P kt key = some kl) (hin : key ∈ l.map (·.1)) (value : Value) :
    ∃ w' j, (Instr.mapUpdate t (.map (some b)) key value).run P w = .ok () w' ∧ (∃ hj : j < l.length, l[j].1 = key) ∧ MapAt P kt w' b (l.set j (key, value)) ∧ TurnedAt b w w' := by
  obtain ⟨es, clock, hb, rfl, hs, hks⟩ := h
  rcases K.find w hk es.toList hks with ⟨_, h2⟩ | ⟨j, e, h1, h2, h3⟩
  · obtain ⟨x, hx, he⟩ := List.mem_map.1 hin
    obtain ⟨y, hy, rfl⟩ := List.mem_map.1 hx
    exact absurd he (h2 y hy)
  · obtain ⟨hj, hje⟩ := List.getElem?_eq_some_iff.1 h2
    have hj' : j < es.size := by simpa using hj
    refine ⟨{ w with heap := w.heap.setIfInBounds b (.map (es.modify j fun x => { x with key := key, val := value }) clock) }, j, ?_, ⟨by simpa using hj', by simp; rw [← h3, ← hje]; simp⟩, ⟨_, _, (heap_set hb).1, ?_, ?_, ?_⟩, ⟨rfl, rfl, rfl, by simp, (heap_set hb).2⟩⟩
    · have hst := K.stays w hk
      have he? : es[j]? = some e := by rw [← h2]; simp
      simp [Instr.mapUpdate, run_underlying hm, Go.MapKept.run_getObj_map hb, K.check w _ hk, h1, he?, h3, hst, Go.MapKept.run_setObj_map _ hb, Result.andThen]
    · rw [Array.toList_modify, list_modify_set _ _ _ hj, List.map_set]
    · refine stamped_modify hs _ _ (fun _ _ => rfl) (fun x _ hx1 => ?_)
      rw [← Array.getElem?_toList, h2] at hx1
      cases hx1
      exact h3.symm
    · intro x hx
      rcases Go.MapFrom.mem_modify hx with h1 | ⟨e', he', rfl⟩
      · exact hks x h1
      · exact ⟨_, hk⟩
/-- .. what it holds already -/
theorem MapAt.put_same (h : MapAt P kt w b l) (hm : P.underlying t = some (.map kt et)) (K : Keyed P kt) {key value : Value} {kl : Lit} (hk : keyOf P kt key = some kl) (hin : (key, value) ∈ l) :
    ∃ w', (Instr.mapUpdate t (.map (some b)) key value).run P w = .ok () w' ∧ MapAt P kt w' b l ∧ TurnedAt b w w' := by
  obtain ⟨w', j, h1, ⟨hj, hjk⟩, h2, h3⟩ := h.put_hit hm K hk (List.mem_map.2 ⟨_, hin, rfl⟩) value
  have hnd := h.keys_nodup
  obtain ⟨i, hi, hie⟩ := List.getElem_of_mem hin
  have hij : i = j := by
    have e1 : (l.map (·.1))[i]'(by simpa using hi) = (l.map (·.1))[j]'(by simpa using hj) := by simp [hie, hjk]
    rcases Nat.lt_trichotomy i j with hlt | heq | hlt
    · exact absurd e1 (List.pairwise_iff_getElem.1 hnd i j _ _ hlt)
    · exact heq
    · exact absurd e1.symm (List.pairwise_iff_getElem.1 hnd j i _ _ hlt)
  subst hij
  have hs : l.set i (key, value) = l := by rw [← hie]; exact List.set_getElem_self hj
  rw [hs] at h2
  exact ⟨w', h1, h2, h3⟩
end
end Go.Proofs.YtmobdmljbbckiaaDoor
