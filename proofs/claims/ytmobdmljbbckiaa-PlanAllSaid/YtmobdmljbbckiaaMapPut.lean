/- A store into a map at a key that is there. Of whatever program. -/
import Derived.Test.YtmobdmljbbckiaaMapLaws
namespace Go.Proofs.Ytmobdmljbbckiaa
open Go.RowKit Go.MapKept Go.WideElems Go.WideMaps Go.ChangeMaps Go.ChangeShapes Go.WideShapes Go.Maps

section
variable {P : Program} {w : World} {t kt et : TypeId} {b : Nat} {l : List (Value × Value)}
theorem MapAt.keys_nodup (h : MapAt P kt w b l) : (l.map (·.1)).Nodup := by
  obtain ⟨es, clock, hb, rfl, hs, hks⟩ := h
  have hp := ((stamped_iff es clock).1 hs).2.2
  unfold List.Nodup
  rw [List.map_map, List.pairwise_map]
  exact hp
theorem list_modify_set {α : Type} (f : α → α) : ∀ (l : List α) (j : Nat) (h : j < l.length), l.modify j f = l.set j (f l[j])
  | x :: l, 0, _ => by simp
  | x :: l, j + 1, h => by
    have := list_modify_set f l j (by simpa using h)
    simp [List.modify_succ_cons, this]
theorem MapAt.put_hit (h : MapAt P kt w b l) (hm : P.underlying t = some (.map kt et)) (K : Keyed P kt) {key : Value} {kl : Lit} (hk : keyOf P kt key = some kl) (hin : key ∈ l.map (·.1)) (value : Value) :
    ∃ w' j, (Instr.mapUpdate t (.map (some b)) key value).run P w = .ok () w' ∧ (∃ hj : j < l.length, l[j].1 = key) ∧ MapAt P kt w' b (l.set j (key, value)) ∧ TurnedAt b w w' := by
  obtain ⟨es, clock, hb, rfl, hs, hks⟩ := h
  rcases K.find w hk es.toList hks with ⟨_, h2⟩ | ⟨j, e, h1, h2, h3⟩
  · obtain ⟨x, hx, he⟩ := List.mem_map.1 hin
    obtain ⟨y, hy, rfl⟩ := List.mem_map.1 hx
    exact absurd he (h2 y hy)
  · obtain ⟨hj, hje⟩ := List.getElem?_eq_some_iff.1 h2
    have hj' : j < es.size := by simpa using hj
    refine ⟨{ w with heap := w.heap.setIfInBounds b (.map (es.modify j fun x => { x with key := key, val := value }) clock) }, j, ?_, ⟨by simpa using hj', by simp; rw [← h3, ← hje]; simp⟩, ⟨_, _, (heap_set hb).1, ?_, ?_, ?_⟩, ⟨rfl, rfl, rfl, by simp, (heap_set hb).2⟩⟩
    · have hst := K.stays w hk
      have he? : es[j]? = some e := by rw [← h2]; simp
      simp [Instr.mapUpdate, run_underlying hm, Go.MapKept.run_getObj_map hb, K.check w _ hk, h1, he?, h3, hst, Go.MapKept.run_setObj_map _ hb, Result.andThen]
    · rw [Array.toList_modify, list_modify_set _ _ _ hj, List.map_set]
    · refine stamped_modify hs _ _ (fun _ _ => rfl) (fun x _ hx1 => ?_)
      rw [← Array.getElem?_toList, h2] at hx1
      cases hx1
      exact h3.symm
    · intro x hx
      rcases Go.MapFrom.mem_modify hx with h1 | ⟨e', he', rfl⟩
      · exact hks x h1
      · exact ⟨_, hk⟩
/-- .. what it holds already -/
theorem MapAt.put_same (h : MapAt P kt w b l) (hm : P.underlying t = some (.map kt et)) (K : Keyed P kt) {key value : Value} {kl : Lit} (hk : keyOf P kt key = some kl) (hin : (key, value) ∈ l) :
    ∃ w', (Instr.mapUpdate t (.map (some b)) key value).run P w = .ok () w' ∧ MapAt P kt w' b l ∧ TurnedAt b w w' := by
  obtain ⟨w', j, h1, ⟨hj, hjk⟩, h2, h3⟩ := h.put_hit hm K hk (List.mem_map.2 ⟨_, hin, rfl⟩) value
  have hnd := h.keys_nodup
  obtain ⟨i, hi, hie⟩ := List.getElem_of_mem hin
  have hij : i = j := by
    have e1 : (l.map (·.1))[i]'(by simpa using hi) = (l.map (·.1))[j]'(by simpa using hj) := by simp [hie, hjk]
    rcases Nat.lt_trichotomy i j with hlt | heq | hlt
    · exact absurd e1 (List.pairwise_iff_getElem.1 hnd i j _ _ hlt)
    · exact heq
    · exact absurd e1.symm (List.pairwise_iff_getElem.1 hnd j i _ _ hlt)
  subst hij
  have hs : l.set i (key, value) = l := by rw [← hie]; exact List.set_getElem_self hj
  rw [hs] at h2
  exact ⟨w', h1, h2, h3⟩
/-- an entry that is there, taken up to be stored to -/
def EntryHit (P : Program) (kt : TypeId) (w : World) (b : Nat) (l : List (Value × Value)) (key : Value) (stamp : Nat) : Prop :=
  ∃ (es : Array MapEntry) (j : Nat) (e : MapEntry) (clock : Nat), w.heap[b]? = some (.map es clock) ∧ es.toList[j]? = some e ∧ e.key = key ∧ e.born = stamp ∧ es.toList.map (fun e => (e.key, e.val)) = l ∧ Stamped es clock ∧ ∀ x ∈ es.toList, ∃ l, keyOf P kt x.key = some l
theorem EntryHit.same {key : Value} {stamp : Nat} {w' : World} (h : EntryHit P kt w b l key stamp) (he : w'.heap[b]? = w.heap[b]?) : EntryHit P kt w' b l key stamp := by
  obtain ⟨es, j, e, c, h1, h2⟩ := h
  exact ⟨es, j, e, c, he.trans h1, h2⟩
theorem MapAt.entry_hit (h : MapAt P kt w b l) (hm : P.underlying t = some (.map kt et)) (K : Keyed P kt) {key v : Value} {kl : Lit} (hk : keyOf P kt key = some kl) (hin : (key, v) ∈ l) :
    ∃ w' stamp, (Instr.mapEntry t (.map (some b)) key).run P w = .ok (.tuple #[v, .int .i64 (stamp : Nat)]) w' ∧ EntryHit P kt w' b l key stamp ∧ TurnedAt b w w' := by
  have hnd := h.keys_nodup
  obtain ⟨es, clock, hb, rfl, hs, hks⟩ := h
  obtain ⟨x, hx, he⟩ := List.mem_map.1 hin
  rcases K.find w hk es.toList hks with ⟨_, h2⟩ | ⟨j, e, h1, h2, h3⟩
  · exact absurd (congrArg Prod.fst he) (h2 x hx)
  · obtain ⟨hj, hje⟩ := List.getElem?_eq_some_iff.1 h2
    have hxe : x = e := by
      have hp := ((stamped_iff es clock).1 hs).2.2
      obtain ⟨i, hi, rfl⟩ := List.getElem_of_mem hx
      have hke : (es.toList[i]).key = (es.toList[j]).key := by rw [hje, h3]; exact congrArg Prod.fst he
      rcases Nat.lt_trichotomy i j with hlt | heq | hlt
      · exact absurd hke (List.pairwise_iff_getElem.1 hp i j hi hj hlt)
      · subst heq; exact hje
      · exact absurd hke.symm (List.pairwise_iff_getElem.1 hp j i hj hi hlt)
    subst hxe
    have hv : x.val = v := congrArg Prod.snd he
    have hst := K.stays w hk
    have he? : es[j]? = some x := by rw [← h2]; simp
    have hmod : (es.modify j fun e => { e with key := key }) = es := by
      apply Array.ext'
      rw [Array.toList_modify, list_modify_set _ _ _ hj, hje]
      have : ({ x with key := key } : MapEntry) = x := by rw [← h3]
      rw [this, ← hje]
      exact List.set_getElem_self hj
    refine ⟨{ w with heap := w.heap.setIfInBounds b (.map es clock) }, x.born, ?_, ⟨es, j, x, clock, (heap_set hb).1, h2, h3, rfl, rfl, hs, hks⟩, ⟨rfl, rfl, rfl, by simp, (heap_set hb).2⟩⟩
    simp [Instr.mapEntry, run_underlying hm, Go.MapKept.run_getObj_map hb, K.check w _ hk, h1, he?, h3, hst, Go.MapKept.run_setObj_map _ hb, Result.andThen, hmod, hv]
    rfl
theorem EntryHit.store {key : Value} {stamp : Nat} (h : EntryHit P kt w b l key stamp) (value : Value) :
    ∃ w' j, (Instr.entryStore t (.map (some b)) (.int .i64 (stamp : Nat)) value).run P w = .ok () w' ∧ (∃ hj : j < l.length, l[j].1 = key) ∧ MapAt P kt w' b (l.set j (key, value)) ∧ TurnedAt b w w' := by
  obtain ⟨es, j, e, clock, hb, h2, rfl, rfl, rfl, hs, hks⟩ := h
  obtain ⟨hj, hje⟩ := List.getElem?_eq_some_iff.1 h2
  have hj' : j < es.size := by simpa using hj
  have hf : es.findIdx? (fun x => ((x.born : Nat) : Int) == ((e.born : Nat) : Int)) = some j := by
    rw [findIdx_arr]; exact findIdx_born ((stamped_iff es clock).1 hs).2.1 h2
  refine ⟨{ w with heap := w.heap.setIfInBounds b (.map (es.modify j fun x => { x with val := value }) clock) }, j, ?_, ⟨by simpa using hj', by simp; rw [← hje]; simp⟩, ⟨_, _, (heap_set hb).1, ?_, stamped_modify hs _ _ (fun _ _ => rfl) (fun _ _ _ => rfl), keys_modify hks _ _ (fun _ => rfl)⟩, ⟨rfl, rfl, rfl, by simp, (heap_set hb).2⟩⟩
  · simp [Instr.entryStore, Go.MapKept.run_getObj_map hb, asInt, asIntOf, Go.MapKept.run_setObj_map _ hb, hf, Result.andThen]
  · rw [Array.toList_modify, list_modify_set _ _ _ hj, List.map_set]
    congr 1
    rw [hje]
end
end Go.Proofs.Ytmobdmljbbckiaa
