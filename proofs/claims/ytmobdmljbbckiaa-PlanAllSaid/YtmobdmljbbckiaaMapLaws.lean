/- A map's block as a list of its entries, in the order in which they came: look-up, update, length. Of whatever program. -/
import Derived.Test.YtmobdmljbbckiaaBase
import Derived.MapKept
import Derived.MapFrom
import Derived.WideKeyEntry
import Derived.Maps.Keyed
namespace Go.Proofs.Ytmobdmljbbckiaa
open Go.RowKit Go.MapKept Go.WideElems Go.WideMaps Go.ChangeMaps Go.ChangeShapes Go.WideShapes Go.Maps

/-- block b is a map that holds just these, each key once -/
def MapAt (P : Program) (kt : TypeId) (w : World) (b : Nat) (l : List (Value × Value)) : Prop :=
  ∃ es clock, w.heap[b]? = some (.map es clock) ∧ es.toList.map (fun e => (e.key, e.val)) = l ∧ Stamped es clock ∧ ∀ x ∈ es.toList, ∃ l, keyOf P kt x.key = some l

theorem keys_modify {P : Program} {kt : TypeId} {es : Array MapEntry} (h : ∀ x ∈ es.toList, ∃ l, keyOf P kt x.key = some l) (i : Nat) (f : MapEntry → MapEntry) (hf : ∀ e, (f e).key = e.key) : ∀ x ∈ (es.modify i f).toList, ∃ l, keyOf P kt x.key = some l := by
  intro x hx
  rcases Go.MapFrom.mem_modify hx with h1 | ⟨e, he, rfl⟩
  · exact h x h1
  · rw [hf]; exact h e (Go.MapFrom.at_mem he)
theorem MapAt.made (P : Program) (kt : TypeId) (w : World) : MapAt P kt (w.alloc (.map #[] 0)) w.heap.size [] :=
  ⟨#[], 0, (heap_alloc w _).1, rfl, stamped_empty 0, by simp⟩
theorem MapAt.ext {P : Program} {kt : TypeId} {w w' : World} {b : Nat} {l : List (Value × Value)} (h : MapAt P kt w b l) (hx : Ext w w') : MapAt P kt w' b l := by
  obtain ⟨es, c, h1, h2⟩ := h
  exact ⟨es, c, by rw [hx.block b (Array.getElem?_eq_some_iff.1 h1).1]; exact h1, h2⟩
theorem MapAt.same {P : Program} {kt : TypeId} {w w' : World} {b : Nat} {l : List (Value × Value)} (h : MapAt P kt w b l) (he : w'.heap[b]? = w.heap[b]?) : MapAt P kt w' b l := by
  obtain ⟨es, c, h1, h2⟩ := h
  exact ⟨es, c, he.trans h1, h2⟩
theorem MapAt.lt {P : Program} {kt : TypeId} {w : World} {b : Nat} {l : List (Value × Value)} (h : MapAt P kt w b l) : b < w.heap.size := by
  obtain ⟨es, c, h1, _⟩ := h
  exact (Array.getElem?_eq_some_iff.1 h1).1

section
variable {P : Program} {w : World} {t kt et : TypeId} {b : Nat} {l : List (Value × Value)}

theorem MapAt.look_hit (h : MapAt P kt w b l) (hm : P.underlying t = some (.map kt et)) (K : Keyed P kt) {key v : Value} {kl : Lit} (hk : keyOf P kt key = some kl) (hin : (key, v) ∈ l) (c : Bool) :
    (Instr.lookup t (.map (some b)) key c).run P w = .ok (if c then .tuple #[v, .bool true] else v) w := by
  obtain ⟨es, clock, hb, rfl, hs, hks⟩ := h
  rcases K.find w hk es.toList hks with ⟨_, h2⟩ | ⟨j, e, h1, h2, h3⟩
  · obtain ⟨x, hx, he⟩ := List.mem_map.1 hin
    cases he
    exact absurd rfl (h2 x hx)
  · obtain ⟨x, hx, he⟩ := List.mem_map.1 hin
    have hxe : x = e := by
      have hp := ((stamped_iff es clock).1 hs).2.2
      obtain ⟨i, hi, rfl⟩ := List.getElem_of_mem hx
      have hj := (List.getElem?_eq_some_iff.1 h2)
      obtain ⟨hjl, rfl⟩ := hj
      by_cases hij : i = j
      · subst hij; rfl
      · exfalso
        have hke : (es.toList[i]).key = (es.toList[j]).key := by rw [h3]; exact congrArg Prod.fst he
        rcases Nat.lt_or_gt_of_ne hij with hlt | hlt
        · exact (List.pairwise_iff_getElem.1 hp i j hi hjl hlt) hke
        · exact (List.pairwise_iff_getElem.1 hp j i hjl hi hlt) hke.symm
    subst hxe
    cases he
    have hne : es.isEmpty = false := by
      cases hE : es.isEmpty with
      | false => rfl
      | true => rw [Array.isEmpty_iff] at hE; subst hE; simp at hx
    cases c <;> simp [Instr.lookup, run_underlying hm, Go.MapKept.run_getObj_map hb, K.check w _ hk, h1, Result.andThen]

theorem MapAt.look_miss (h : MapAt P kt w b l) (hm : P.underlying t = some (.map kt et)) (K : Keyed P kt) {key z : Value} {kl : Lit} (hk : keyOf P kt key = some kl) (hout : ∀ x ∈ l, x.1 ≠ key) (hz : (zeroValue et).run P w = .ok z w) (c : Bool) :
    (Instr.lookup t (.map (some b)) key c).run P w = .ok (if c then .tuple #[z, .bool false] else z) w := by
  obtain ⟨es, clock, hb, rfl, hs, hks⟩ := h
  rcases K.find w hk es.toList hks with ⟨h1, _⟩ | ⟨j, e, _, h2, h3⟩
  · cases c <;> simp [Instr.lookup, run_underlying hm, Go.MapKept.run_getObj_map hb, K.check w _ hk, h1, hz, Result.andThen]
  · exact absurd h3 (hout (e.key, e.val) (List.mem_map.2 ⟨e, List.mem_of_getElem? h2, rfl⟩))

theorem MapAt.len (h : MapAt P kt w b l) (hm : P.underlying t = some (.map kt et)) (ty : TypeId) : (Builtin.len_ #[t] ty #[.map (some b)]).run P w = .ok (.int .i64 (l.length : Nat)) w := by
  obtain ⟨es, clock, hb, rfl, hs, hks⟩ := h
  simp [Builtin.len_, run_underlying hm, Go.MapKept.run_getObj_map hb, Result.andThen]
  rfl

/-- nothing but this block turned -/
structure TurnedAt (b : Nat) (w w' : World) : Prop where
  os : w'.os = w.os
  tape : w'.tape = w.tape
  output : w'.output = w.output
  size : w'.heap.size = w.heap.size
  other : ∀ k, k ≠ b → w'.heap[k]? = w.heap[k]?

theorem TurnedAt.below {b B : Nat} {w w' : World} (h : TurnedAt b w w') (hb : B ≤ b) {w0 : World} (h0 : Below B w0 w) : Below B w0 w' :=
  ⟨h.os.trans h0.os, h.tape.trans h0.tape, h.output.trans h0.output, by rw [h.size]; exact h0.size, fun k hk => (h.other k (by omega)).trans (h0.block k hk)⟩

theorem MapAt.put_miss (h : MapAt P kt w b l) (hm : P.underlying t = some (.map kt et)) (K : Keyed P kt) {key value : Value} {kl : Lit} (hk : keyOf P kt key = some kl) (hout : ∀ x ∈ l, x.1 ≠ key) :
    ∃ w', (Instr.mapUpdate t (.map (some b)) key value).run P w = .ok () w' ∧ MapAt P kt w' b (l ++ [(key, value)]) ∧ TurnedAt b w w' := by
  obtain ⟨es, clock, hb, rfl, hs, hks⟩ := h
  rcases K.find w hk es.toList hks with ⟨h1, h2⟩ | ⟨j, e, _, h2, h3⟩
  · refine ⟨{ w with heap := w.heap.setIfInBounds b (.map (es.push { key := key, val := value, born := clock }) (clock + 1)) }, by simp [Instr.mapUpdate, run_underlying hm, Go.MapKept.run_getObj_map hb, K.check w _ hk, h1, Go.MapKept.run_setObj_map _ hb, Result.andThen], ⟨_, _, (heap_set hb).1, by simp, stamped_push hs h2, ?_⟩, ⟨rfl, rfl, rfl, by simp, (heap_set hb).2⟩⟩
    intro x hx
    simp only [Array.toList_push, List.mem_append, List.mem_singleton] at hx
    rcases hx with hx | rfl
    · exact hks x hx
    · exact ⟨_, hk⟩
  · exact absurd h3 (hout (e.key, e.val) (List.mem_map.2 ⟨e, List.mem_of_getElem? h2, rfl⟩))

/-- an entry that was made and not stored to yet -/
def EntryAt (P : Program) (kt : TypeId) (w : World) (b : Nat) (l : List (Value × Value)) (key : Value) (stamp : Nat) : Prop :=
  ∃ (es : Array MapEntry) (e : MapEntry) (clock : Nat), w.heap[b]? = some (.map (es.push e) clock) ∧ e.key = key ∧ e.born = stamp ∧ es.toList.map (fun e => (e.key, e.val)) = l ∧ Stamped (es.push e) clock ∧ ∀ x ∈ (es.push e).toList, ∃ l, keyOf P kt x.key = some l

theorem MapAt.entry_miss (h : MapAt P kt w b l) (hm : P.underlying t = some (.map kt et)) (K : Keyed P kt) {key z : Value} {kl : Lit} (hk : keyOf P kt key = some kl) (hout : ∀ x ∈ l, x.1 ≠ key) (hz : (zeroValue et).run P w = .ok z w) :
    ∃ w' stamp, (Instr.mapEntry t (.map (some b)) key).run P w = .ok (.tuple #[z, .int .i64 (stamp : Nat)]) w' ∧ EntryAt P kt w' b l key stamp ∧ TurnedAt b w w' := by
  obtain ⟨es, clock, hb, rfl, hs, hks⟩ := h
  rcases K.find w hk es.toList hks with ⟨h1, h2⟩ | ⟨j, e, _, h2, h3⟩
  · refine ⟨{ w with heap := w.heap.setIfInBounds b (.map (es.push { key := key, val := z, born := clock }) (clock + 1)) }, clock, ?_, ⟨es, _, _, (heap_set hb).1, rfl, rfl, rfl, stamped_push hs h2, ?_⟩, ⟨rfl, rfl, rfl, by simp, (heap_set hb).2⟩⟩
    · simp [Instr.mapEntry, run_underlying hm, Go.MapKept.run_getObj_map hb, K.check w _ hk, h1, Go.MapKept.run_setObj_map _ hb, hz, Result.andThen]
      rfl
    · intro x hx
      simp only [Array.toList_push, List.mem_append, List.mem_singleton] at hx
      rcases hx with hx | rfl
      · exact hks x hx
      · exact ⟨_, hk⟩
  · exact absurd h3 (hout (e.key, e.val) (List.mem_map.2 ⟨e, List.mem_of_getElem? h2, rfl⟩))

theorem EntryAt.same {key : Value} {stamp : Nat} {w' : World} (h : EntryAt P kt w b l key stamp) (he : w'.heap[b]? = w.heap[b]?) : EntryAt P kt w' b l key stamp := by
  obtain ⟨es, e, c, h1, h2⟩ := h
  exact ⟨es, e, c, he.trans h1, h2⟩
theorem EntryAt.ext {key : Value} {stamp : Nat} {w' : World} (h : EntryAt P kt w b l key stamp) (hx : Ext w w') : EntryAt P kt w' b l key stamp := by
  obtain ⟨es, e, c, h1, h2⟩ := h
  exact ⟨es, e, c, by rw [hx.block b (Array.getElem?_eq_some_iff.1 h1).1]; exact h1, h2⟩

theorem EntryAt.store {key : Value} {stamp : Nat} (h : EntryAt P kt w b l key stamp) (value : Value) :
    ∃ w', (Instr.entryStore t (.map (some b)) (.int .i64 (stamp : Nat)) value).run P w = .ok () w' ∧ MapAt P kt w' b (l ++ [(key, value)]) ∧ TurnedAt b w w' := by
  obtain ⟨es, e, clock, hb, rfl, rfl, rfl, hs, hks⟩ := h
  have hlast : (es.push e).toList[es.size]? = some e := by simp
  have hf : (es.push e).findIdx? (fun x => ((x.born : Nat) : Int) == ((e.born : Nat) : Int)) = some es.size := by
    rw [findIdx_arr]; exact findIdx_born hs.2.1 hlast
  refine ⟨{ w with heap := w.heap.setIfInBounds b (.map ((es.push e).modify es.size fun x => { x with val := value }) clock) }, ?_, ⟨_, _, (heap_set hb).1, ?_, stamped_modify hs _ _ (fun _ _ => rfl) (fun _ _ _ => rfl), keys_modify hks _ _ (fun _ => rfl)⟩, ⟨rfl, rfl, rfl, by simp, (heap_set hb).2⟩⟩
  · simp [Instr.entryStore, Go.MapKept.run_getObj_map hb, asInt, asIntOf, Go.MapKept.run_setObj_map _ hb, hf, Result.andThen]
  · have : ((es.push e).modify es.size fun x => { x with val := value }).toList = es.toList ++ [{ e with val := value }] := by
      rw [Array.toList_modify, Array.toList_push]
      have := modify_last (fun x : MapEntry => { x with val := value }) e es.toList
      simpa using this
    rw [this]; simp
end
end Go.Proofs.Ytmobdmljbbckiaa
