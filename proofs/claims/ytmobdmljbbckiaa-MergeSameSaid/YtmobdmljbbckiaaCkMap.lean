/- Maps of pairs: a store; the keys sorted. -/
import Derived.Test.YtmobdmljbbckiaaSortCk
import Derived.Test.YtmobdmljbbckiaaColCk
import Derived.Test.YtmobdmljbbckiaaMapPut
namespace Go.Proofs.Ytmobdmljbbckiaa
open Go.RowKit Go.Maps
set_option maxHeartbeats 3200000
set_option maxRecDepth 100000

def boolsCk (l : List Ck) : List (Value × Value) := l.map fun t => (vCk t, .bool true)
def addCk (l : List Ck) (k : Ck) : List Ck := if k ∈ l then l else l ++ [k]
theorem mem_addCk {l : List Ck} {k x : Ck} : x ∈ addCk l k ↔ x ∈ l ∨ x = k := by
  unfold addCk
  split
  · rename_i h
    constructor
    · exact fun hx => .inl hx
    · rintro (hx | rfl)
      · exact hx
      · exact h
  · simp
theorem addCk_put {w : World} {b : Nat} {l : List Ck} (h : MapAt Try.prog 54 w b (boolsCk l)) (k : Ck) (hk : CkKey k) :
    ∃ w', (Instr.mapUpdate 153 (.map (some b)) (vCk k) (.bool true)).run Try.prog w = .ok () w' ∧ MapAt Try.prog 54 w' b (boolsCk (addCk l k)) ∧ TurnedAt b w w' := by
  obtain ⟨kl, hkl⟩ := keyCk hk
  unfold addCk
  by_cases hin : k ∈ l
  · rw [if_pos hin]
    exact h.put_same (t := 153) Try.underlying153 keysCk hkl (List.mem_map.2 ⟨k, hin, rfl⟩)
  · rw [if_neg hin]
    obtain ⟨w', h1, h2, h3⟩ := h.put_miss (t := 153) Try.underlying153 keysCk hkl (fun x hx e => by
      obtain ⟨u, hu, rfl⟩ := List.mem_map.1 hx
      exact hin (by rw [← vCk_inj e]; exact hu)) (value := .bool true)
    exact ⟨w', h1, by simpa [boolsCk] using h2, h3⟩
def unTm1 (c : Array Value) (i : Nat) : Tm := ⟨match c[i]? with | some (Value.int _ n) => n | _ => 0, match c[i + 1]? with | some (Value.string s) => s | _ => ⟨#[]⟩, match c[i + 2]? with | some (Value.string s) => s | _ => ⟨#[]⟩⟩
def unCk : Value → Ck
  | .agg c => ⟨unTm1 c 0, unTm1 c 3⟩
  | _ => default
theorem unCk_v (k : Ck) : unCk (vCk k) = k := by obtain ⟨⟨a, b, c⟩, ⟨d, e, f⟩⟩ := k; rfl
theorem perm_of_vCk {a b : List Ck} (h : (a.map vCk).Perm (b.map vCk)) : a.Perm b := by
  have h2 := h.map unCk
  rw [List.map_map, List.map_map] at h2
  have e : unCk ∘ vCk = id := funext unCk_v
  rw [e, List.map_id, List.map_id] at h2
  exact h2
theorem bools_nodup {w : World} {b : Nat} {l : List Ck} (h : MapAt Try.prog 54 w b (boolsCk l)) : l.Nodup := by
  have := h.keys_nodup
  have e : (boolsCk l).map (·.1) = l.map vCk := by simp [boolsCk]
  rw [e] at this
  unfold List.Nodup at this ⊢
  rw [List.pairwise_map] at this
  exact this.imp fun {x y} h e => h (by rw [e])
theorem rises_sort {α : Type} {c : α → α → Int} (h : LawCmp c) {l : List α} (hn : l.Nodup) : Rises c (sortL c l) := by
  have h1 := sortL_le h l
  have h2 : (sortL c l).Nodup := (sortL_perm c l).nodup_iff.2 hn
  unfold List.Nodup at h2
  unfold Rises
  refine (h1.and h2).imp fun {a b} hab => ?_
  have := mt (h.eq a b).1 hab.2
  omega

/-- slices.SortedFunc over maps.Keys -/
theorem sortedKeysCk_any (Bm b : Nat) (l : List Ck) (hN : l.length ≤ 100000) (w : World) (hm : w.cell? ⟨Bm, 0, none⟩ = some (.map (some b))) (hown : MapAt Try.prog 54 w b (boolsCk l)) :
    Calls Try.prog 84 #[.func (.func 103) #[] #[.pointer (some ⟨Bm, 0, none⟩)], .func (.func 86) #[] #[]] w fun e W' =>
      ∃ p c, ∃ ss : List Ck, e = .returned (.slice p ss.length c) ∧ ((∀ k, k ∈ ss ↔ k ∈ l) ∧ Rises cmpCk ss) ∧ W'.ownsRow w.heap.size 54 6 (.slice p ss.length c) ss.length (ss.flatMap encCk) ∧ Ext w W' := by
  have hnd := bools_nodup hown
  have hc := collectKeysCk_any Bm b (boolsCk l) (fun x hx => by obtain ⟨u, _, rfl⟩ := List.mem_map.1 hx; exact ⟨u, rfl⟩) (by simpa [boolsCk] using hN) w hm hown
  have hcc : Calls Try.prog 101 #[.func (.func 103) #[] #[.pointer (some ⟨Bm, 0, none⟩)]] w fun e W' => ∃ p c, ∃ ss : List Ck, e = .returned (.slice p l.length c) ∧ ss.Perm l ∧ W'.ownsRow w.heap.size 54 6 (.slice p l.length c) ss.length (ss.flatMap encCk) ∧ Ext w W' :=
    hc.mono fun e W' ⟨v, ss, h1, h2, h3, h4⟩ => by
      have hp : ss.Perm l := by
        have e1 : (boolsCk l).map (·.1) = l.map vCk := by simp [boolsCk]
        rw [e1] at h2
        exact perm_of_vCk h2
      obtain ⟨p, c, rfl⟩ := sliceOf_own h3
      rw [hp.length_eq] at h1
      rw [hp.length_eq] at h3
      exact ⟨p, c, ss, h1, hp, by rw [hp.length_eq]; exact h3, h4⟩
  have hso : ∀ p c (ss : List Ck) W, ss.Perm l → W.ownsRow w.heap.size 54 6 (.slice p l.length c) ss.length (ss.flatMap encCk) → Ext w W → Calls Try.prog 102 #[.slice p l.length c, .func (.func 86) #[] #[]] W fun e W' => e = .returned (.tuple #[]) ∧ (((sortL cmpCk ss).Perm l ∧ Rises cmpCk (sortL cmpCk ss)) ∧ W'.ownsRow w.heap.size 54 6 (.slice p l.length c) (sortL cmpCk ss).length ((sortL cmpCk ss).flatMap encCk)) ∧ Ext w W' := fun p c ss W hp ho hx =>
    (sortFunc_ck _ ss W w.heap.size ho hx.size (by rw [hp.length_eq]; exact hN)).mono fun e W' ⟨h1, h2, h3⟩ => ⟨h1, ⟨⟨(sortL_perm cmpCk ss).trans hp, rises_sort law_cmpCk (hp.nodup_iff.2 hnd)⟩, by rw [(sortL_perm cmpCk ss).length_eq]; exact h2⟩, Below.trans hx h3⟩
  have HH := Lib.hid (And.intro hcc hso)
  clear hc hcc hso hown hnd
  go_enter Try.func84, Try.ntmps84
  go_wp2_with (first | (go_at_call 101; refine HH.out.1.mono ?_; rintro e w1 ⟨p, c, ss, rfl, hp, ho1, hx1⟩; have HP := Lib.hid (And.intro hp ho1); clear hp ho1) | (go_at_call 102; refine (HH.out.2 _ _ _ _ HP.out.1 HP.out.2 hx1).mono ?_; rintro e w2 ⟨rfl, hf, hx2⟩; have HF := Lib.hid hf; clear hf))
  go_ret
  have hl := HF.out.1.1.length_eq
  exact ⟨p, c, sortL cmpCk ss, by rw [hl]; rfl, ⟨fun k => HF.out.1.1.mem_iff, HF.out.1.2⟩, by have := HF.out.2; rw [hl] at this ⊢; exact this, hx2⟩
end Go.Proofs.Ytmobdmljbbckiaa
