/- The sides of a merge: triples by pairs; in plain mathematics, and rs a map of slices. -/
import Derived.Test.YtmobdmljbbckiaaKeyCk
import Derived.Test.YtmobdmljbbckiaaMapPut
import Derived.Test.YtmobdmljbbckiaaOwnSet
import Derived.Test.YtmobdmljbbckiaaFuncsTr
namespace Go.Proofs.Ytmobdmljbbckiaa
open Go.RowKit Go.Maps
set_option maxHeartbeats 1600000
set_option maxRecDepth 100000

def grp (k : Ck) (l : List Tr) : List Tr := l.filter fun t => decide (ckOf t = k)
theorem mem_grp {k : Ck} {l : List Tr} {t : Tr} : t ∈ grp k l ↔ t ∈ l ∧ ckOf t = k := by simp [grp]
theorem grp_len (k : Ck) (l : List Tr) : (grp k l).length ≤ l.length := List.length_filter_le _ _
theorem grp_same (l : List Tr) (t : Tr) : grp (ckOf t) (l ++ [t]) = grp (ckOf t) l ++ [t] := by simp [grp]
theorem grp_other {k : Ck} (l : List Tr) {t : Tr} (h : k ≠ ckOf t) : grp k (l ++ [t]) = grp k l := by simp [grp, Ne.symm h]
def mp (es : List (Ck × Value)) : List (Value × Value) := es.map fun e => (vCk e.1, e.2)
theorem mp_set (es : List (Ck × Value)) (j : Nat) (k : Ck) (v : Value) : (mp es).set j (vCk k, v) = mp (es.set j (k, v)) := by simp [mp, List.map_set]
theorem mp_keys (es : List (Ck × Value)) : (mp es).map (·.1) = es.map fun e => vCk e.1 := by simp [mp]

/-- what stands in one block begins alike -/
theorem own_apart {w : World} {B : Nat} {u v : Value} {lu lv : List Tr} (hu : OwnSet B w u lu) (hv : OwnSet B w v lv) {a b : Tr} {rs bs : List Tr} (eu : lu = a :: rs) (ev : lv = b :: bs) (hne : a ≠ b) : u.ownBlock ≠ v.ownBlock := by
  subst eu; subst ev
  intro e
  obtain ⟨_, ⟨_, h⟩ | ⟨g, cap, cur, rfl, _, hc, _, _, _, ht⟩⟩ := hu
  · simp at h
  obtain ⟨_, ⟨_, h⟩ | ⟨g', cap', cur', rfl, _, hc', _, _, _, ht'⟩⟩ := hv
  · simp at h
  have hg : g = g' := by simpa [Value.ownBlock] using e
  subst hg
  rw [hc] at hc'
  cases hc'
  have h1 : encTr a = cur.toList.take 9 := by
    have := congrArg (List.take 9) ht
    rw [List.take_take, Nat.min_eq_left (by simp only [List.length_cons]; omega)] at this
    rw [this, List.flatMap_cons]
    rfl
  have h2 : encTr b = cur.toList.take 9 := by
    have := congrArg (List.take 9) ht'
    rw [List.take_take, Nat.min_eq_left (by simp only [List.length_cons]; omega)] at this
    rw [this, List.flatMap_cons]
    rfl
  have h3 := h1.trans h2.symm
  obtain ⟨⟨a1, a2, a3⟩, ⟨a4, a5, a6⟩, ⟨a7, a8, a9⟩⟩ := a
  obtain ⟨⟨b1, b2, b3⟩, ⟨b4, b5, b6⟩, ⟨b7, b8, b9⟩⟩ := b
  simp [encTr] at h3
  exact hne (by simp [h3])
theorem own_turned {w w' : World} {b base : Nat} {e : TypeId} {size : Nat} {v : Value} {n : Nat} {xs : List Value} (h : w.ownsRow base e size v n xs) (ht : TurnedAt b w w') (hb : ∃ es c, w.heap[b]? = some (.map es c)) : w'.ownsRow base e size v n xs := by
  obtain ⟨h1, h2 | ⟨g, cap, cur, hv, hg, hc, r⟩⟩ := h
  · exact ⟨h1, .inl h2⟩
  · refine ⟨h1, .inr ⟨g, cap, cur, hv, hg, ?_, r⟩⟩
    rw [ht.other g (fun e => ?_)]
    · exact hc
    · subst e
      obtain ⟨es, c, hb⟩ := hb
      rw [hb] at hc; cases hc
theorem MapAt.isMap {P : Program} {kt : TypeId} {w : World} {b : Nat} {l : List (Value × Value)} (h : MapAt P kt w b l) : ∃ es c, w.heap[b]? = some (.map es c) := by
  obtain ⟨es, c, h, _⟩ := h; exact ⟨es, c, h⟩
theorem EntryHit.isMap {P : Program} {kt : TypeId} {w : World} {b : Nat} {l : List (Value × Value)} {key : Value} {stamp : Nat} (h : EntryHit P kt w b l key stamp) : ∃ es c, w.heap[b]? = some (.map es c) := by
  obtain ⟨es, _, _, c, h, _⟩ := h; exact ⟨es, c, h⟩
theorem EntryAt.isMap {P : Program} {kt : TypeId} {w : World} {b : Nat} {l : List (Value × Value)} {key : Value} {stamp : Nat} (h : EntryAt P kt w b l key stamp) : ∃ es c, w.heap[b]? = some (.map es c) := by
  obtain ⟨es, _, c, h, _⟩ := h; exact ⟨_, c, h⟩
/-- a row's append leaves a map -/
theorem map_grown {w w' : World} {b base : Nat} {e : TypeId} {size : Nat} {v : Value} {n : Nat} {xs : List Value} (h : w.ownsRow base e size v n xs) (hg : w.grownBy w' v.ownBlock) (hb : ∃ es c, w.heap[b]? = some (.map es c)) : w'.heap[b]? = w.heap[b]? := by
  obtain ⟨es, c, hb⟩ := hb
  refine hg.block b (Array.getElem?_eq_some_iff.1 hb).1 fun e' => ?_
  obtain ⟨_, ⟨rfl, _⟩ | ⟨g, cap, cur, rfl, _, hc, _⟩⟩ := h
  · cases e'
  · simp [Value.ownBlock] at e'
    subst e'
    rw [hb] at hc; cases hc

/-- a side: a map that holds for each pair the slice of its triples -/
structure SideAt (W : World) (B b : Nat) (l : List Tr) (es : List (Ck × Value)) : Prop where
  map : MapAt Try.prog 54 W b (mp es)
  keys : ∀ k, k ∈ es.map (·.1) ↔ ∃ t ∈ l, ckOf t = k
  own : ∀ e ∈ es, OwnSet B W e.2 (grp e.1 l)
theorem SideAt.ext {w w' : World} {B b : Nat} {l : List Tr} {es : List (Ck × Value)} (h : SideAt w B b l es) (hx : Ext w w') : SideAt w' B b l es :=
  ⟨h.map.ext hx, h.keys, fun e he => (h.own e he).ext hx⟩
theorem SideAt.nodup {w : World} {B b : Nat} {l : List Tr} {es : List (Ck × Value)} (h : SideAt w B b l es) : (es.map (·.1)).Nodup := by
  have := h.map.keys_nodup
  rw [mp_keys] at this
  have e : (es.map fun e => vCk e.1) = (es.map (·.1)).map vCk := by simp
  rw [e] at this
  unfold List.Nodup at this ⊢
  rw [List.pairwise_map] at this
  exact this.imp fun {x y} h e => h (by rw [e])
theorem grp_head {k : Ck} {l : List Tr} (h : ∃ t ∈ l, ckOf t = k) : ∃ a rs, grp k l = a :: rs ∧ ckOf a = k := by
  obtain ⟨t, ht, hk⟩ := h
  have hm : t ∈ grp k l := mem_grp.2 ⟨ht, hk⟩
  cases hg : grp k l with
  | nil => rw [hg] at hm; cases hm
  | cons a rs => exact ⟨a, rs, rfl, (mem_grp.1 (by rw [hg]; exact List.mem_cons_self ..)).2⟩
theorem grp_none {k : Ck} {l : List Tr} (h : ¬ ∃ t ∈ l, ckOf t = k) : grp k l = [] := by
  cases hg : grp k l with
  | nil => rfl
  | cons a rs =>
    have := mem_grp.1 (show a ∈ grp k l by rw [hg]; exact List.mem_cons_self ..)
    exact absurd ⟨a, this⟩ h

/-- one more triple of a pair that is there: behind the store -/
theorem SideAt.hit {w2 w3 w4 : World} {B b : Nat} {l : List Tr} {es : List (Ck × Value)} {v v' : Value} (t : Tr)
    (hown : ∀ e ∈ es, OwnSet B w2 e.2 (grp e.1 l)) (hkeys : ∀ k, k ∈ es.map (·.1) ↔ ∃ t ∈ l, ckOf t = k) (hnd : (es.map (·.1)).Nodup) (hin : (ckOf t, v) ∈ es)
    (hv' : OwnSet B w3 v' (grp (ckOf t) l ++ [t])) (hg : w2.grownBy w3 v.ownBlock) (hb3 : ∃ es c, w3.heap[b]? = some (.map es c)) (j : Nat) (hj : ∃ hj : j < (mp es).length, (mp es)[j].1 = vCk (ckOf t))
    (hm : MapAt Try.prog 54 w4 b ((mp es).set j (vCk (ckOf t), v'))) (ht : TurnedAt b w3 w4) : SideAt w4 B b (l ++ [t]) (es.set j (ckOf t, v')) := by
  obtain ⟨hjl, hjk⟩ := hj
  have hjl' : j < es.length := by simpa [mp] using hjl
  have hjk' : es[j].1 = ckOf t := vCk_inj (by simpa [mp] using hjk)
  refine ⟨by rw [← mp_set]; exact hm, fun k => ?_, fun e he => ?_⟩
  · have e1 : (es.set j (ckOf t, v')).map (·.1) = es.map (·.1) := by
      rw [List.map_set]
      show (es.map (·.1)).set j (ckOf t) = _
      rw [← hjk']
      have : es[j].1 = (es.map (·.1))[j]'(by simpa using hjl') := by simp
      rw [this]
      exact List.set_getElem_self _
    rw [e1, hkeys k]
    constructor
    · rintro ⟨u, hu, hk⟩; exact ⟨u, List.mem_append_left _ hu, hk⟩
    · rintro ⟨u, hu, hk⟩
      rcases List.mem_append.1 hu with hu | hu
      · exact ⟨u, hu, hk⟩
      · have : u = t := by simpa using hu
        subst this
        exact (hkeys k).1 (List.mem_map.2 ⟨_, hin, hk⟩)
  · obtain ⟨i, hi, rfl⟩ := List.getElem_of_mem he
    rw [List.length_set] at hi
    by_cases hij : j = i
    · subst hij
      rw [List.getElem_set_self]
      refine own_turned ?_ ht hb3
      show OwnSet B w3 v' (grp (ckOf t) (l ++ [t]))
      rw [grp_same]; exact hv'
    · rw [List.getElem_set_ne hij]
      have hne : es[i].1 ≠ ckOf t := fun e => by
        have e1 : (es.map (·.1))[i]'(by simpa using hi) = (es.map (·.1))[j]'(by simpa using hjl') := by simp [hjk', e]
        rcases Nat.lt_trichotomy i j with h | h | h
        · exact List.pairwise_iff_getElem.1 hnd i j _ _ h e1
        · exact hij h.symm
        · exact List.pairwise_iff_getElem.1 hnd j i _ _ h e1.symm
      refine own_turned ?_ ht hb3
      show OwnSet B w3 es[i].2 (grp es[i].1 (l ++ [t]))
      rw [grp_other _ hne]
      have hu := hown es[i] (List.getElem_mem hi)
      have hv := hown _ hin
      obtain ⟨a, rs, ha, hak⟩ := grp_head ((hkeys es[i].1).1 (List.mem_map.2 ⟨_, List.getElem_mem hi, rfl⟩))
      obtain ⟨a', rs', ha', hak'⟩ := grp_head ((hkeys (ckOf t)).1 (List.mem_map.2 ⟨_, hin, rfl⟩))
      exact World.ownsRow.kept hu hg (.inr (own_apart hu hv ha ha' (fun e => hne (by rw [← hak, ← hak', e]))))

/-- the first triple of a pair -/
theorem SideAt.fresh {w2 w3 w4 : World} {B b : Nat} {l : List Tr} {es : List (Ck × Value)} {v' : Value} (t : Tr)
    (hown : ∀ e ∈ es, OwnSet B w2 e.2 (grp e.1 l)) (hkeys : ∀ k, k ∈ es.map (·.1) ↔ ∃ t ∈ l, ckOf t = k) (hout : ckOf t ∉ es.map (·.1))
    (hv' : OwnSet B w3 v' [t]) (hg : w2.grownBy w3 none) (hb3 : ∃ es c, w3.heap[b]? = some (.map es c))
    (hm : MapAt Try.prog 54 w4 b (mp es ++ [(vCk (ckOf t), v')])) (ht : TurnedAt b w3 w4) : SideAt w4 B b (l ++ [t]) (es ++ [(ckOf t, v')]) := by
  refine ⟨by simpa [mp] using hm, fun k => ?_, fun e he => ?_⟩
  · rw [List.map_append, List.mem_append, hkeys k]
    constructor
    · rintro (⟨u, hu, hk⟩ | hk)
      · exact ⟨u, List.mem_append_left _ hu, hk⟩
      · exact ⟨t, by simp, by simpa using Eq.symm (by simpa using hk)⟩
    · rintro ⟨u, hu, hk⟩
      rcases List.mem_append.1 hu with hu | hu
      · exact .inl ⟨u, hu, hk⟩
      · have : u = t := by simpa using hu
        subst this
        exact .inr (by simp [hk])
  · rcases List.mem_append.1 he with he | he
    · have hne : e.1 ≠ ckOf t := fun h => hout (by rw [← h]; exact List.mem_map.2 ⟨e, he, rfl⟩)
      refine own_turned ?_ ht hb3
      show OwnSet B w3 e.2 (grp e.1 (l ++ [t]))
      rw [grp_other _ hne]
      exact World.ownsRow.kept (hown e he) hg (by
        cases h : e.2.ownBlock with
        | none => exact .inl rfl
        | some g => exact .inr (by simp))
    · have : e = (ckOf t, v') := by simpa using he
      subst this
      refine own_turned ?_ ht hb3
      show OwnSet B w3 v' (grp (ckOf t) (l ++ [t]))
      rw [grp_same, grp_none (fun h => hout ((hkeys _).2 h))]
      exact hv'

/-- what a look-up finds -/
theorem SideAt.look {w : World} {B b : Nat} {l : List Tr} {es : List (Ck × Value)} (h : SideAt w B b l es) (k : Ck) (hk : CkKey k) :
    ∃ p c, (∀ W, Ext w W → (Instr.lookup 100 (.map (some b)) (vCk k) false).run Try.prog W = .ok (.slice p (grp k l).length c) W) ∧ Reads encTr w (.slice p (grp k l).length c) (grp k l) := by
  obtain ⟨kl, hkl⟩ := keyCk hk
  by_cases hin : k ∈ es.map (·.1)
  · obtain ⟨e, he, rfl⟩ := List.mem_map.1 hin
    have ho := h.own e he
    obtain ⟨p, c, hv⟩ := ho.slice
    rw [hv] at ho
    refine ⟨p, c, fun W hW => ?_, ho.reads⟩
    have := (h.map.ext hW).look_hit (t := 100) Try.underlying100 keysCk hkl (v := e.2) (List.mem_map.2 ⟨e, he, rfl⟩) false
    rw [hv] at this
    exact this
  · have hn := grp_none (fun h' => hin ((h.keys k).2 h'))
    rw [hn]
    refine ⟨none, 0, fun W hW => ?_, (OwnSet.nil 0 w).reads⟩
    exact (h.map.ext hW).look_miss (t := 100) Try.underlying100 keysCk hkl (fun x hx e => by
      obtain ⟨y, hy, rfl⟩ := List.mem_map.1 hx
      exact hin (List.mem_map.2 ⟨y, hy, vCk_inj e⟩)) (z := .slice none 0 0) (by kernel_rfl) false
end Go.Proofs.Ytmobdmljbbckiaa
