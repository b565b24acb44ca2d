/- Folds over slices of triples: slices.IndexFunc, ContainsFunc?, Clone, DeleteFunc. -/
import Derived.Test.YtmobdmljbbckiaaFuncs
import Derived.Test.YtmobdmljbbckiaaTermPure
import Derived.WideShapes
namespace Go.Proofs.Ytmobdmljbbckiaa
open Go.RowKit Go.WideShapes
set_option maxHeartbeats 3200000
set_option maxRecDepth 100000

theorem indexFunc_tr (v : Value) (l : List Tr) (w : World) (B g : Nat) (lb : Array Value) (p : Tr → Bool) (hl : Reads encTr w v l) (hB : B ≤ w.heap.size)
    (ht : Tells B w g lb vTr p (· ∈ l)) :
    Calls Try.prog 94 #[v, .func (.func g) #[] lb] w fun e w' => e = .returned (.int .i64 (idxF p l)) ∧ Ext w w' := by
  obtain ⟨a, cap, rfl, hcap, hmax, hcells⟩ := hl
  obtain ⟨eg, hcall⟩ := ht
  unfold maxLen at hmax
  go_enter Try.func94, Try.ntmps94
  go_wp2
  go_loopw [8] (fun jv wr => ∃ j : Nat, jv = .int .i64 j ∧ j ≤ l.length ∧ Hid (∀ i (hi : i < j) (hl : i < l.length), p l[i] = false) ∧ Ext w wr) (fun jv _ => l.length - (intOf jv).toNat)
  case atStart => exact ⟨0, rfl, Nat.zero_le _, (fun i hi => absurd hi (Nat.not_lt_zero _)), Ext.refl _⟩
  case round =>
    obtain ⟨j, rfl, hj, hb, hx⟩ := hrel
    by_cases hlt : j < l.length
    · obtain ⟨b, off, rfl, hc⟩ := hcells (fun h => by simp [h] at hlt)
      obtain ⟨c0, c1, c2, c3, c4, c5, c6, c7, c8⟩ := Tr.cells hc hlt
      have d0 := hx.cell c0
      have d1 := hx.cell c1
      have d2 := hx.cell c2
      have d3 := hx.cell c3
      have d4 := hx.cell c4
      have d5 := hx.cell c5
      have d6 := hx.cell c6
      have d7 := hx.cell c7
      have d8 := hx.cell c8
      have hcl := hcall wr l[j] (List.getElem_mem hlt) (Below.mono hx hB)
      clear hcall hc hcells c0 c1 c2 c3 c4 c5 c6 c7 c8
      generalize hy : l[j] = y at d0 d1 d2 d3 d4 d5 d6 d7 d8 hcl
      have HY := Lib.hid hy
      clear hy
      obtain ⟨⟨k1, s1, g1⟩, ⟨k2, s2, g2⟩, ⟨k3, s3, g3⟩⟩ := y
      dsimp only at *
      cases hp : p ⟨⟨k1, s1, g1⟩, ⟨k2, s2, g2⟩, ⟨k3, s3, g3⟩⟩ with
      | true =>
        rw [hp] at hcl
        have HC := Lib.hid hcl
        have HP := Lib.hid hp
        clear hcl hp
        go_wp2_with (go_at_fn g; refine HC.out.mono ?_; rintro e w1 ⟨rfl, hx1⟩)
        go_ret
        exact ⟨by rw [idxF_hit hlt (by rw [HY.out]; exact HP.out) (fun i hi => hb.out i hi (by omega))]; rfl, hx.trans hx1⟩
      | false =>
        rw [hp] at hcl
        have HC := Lib.hid hcl
        have HP := Lib.hid hp
        clear hcl hp
        go_wp2_with (go_at_fn g; refine HC.out.mono ?_; rintro e w1 ⟨rfl, hx1⟩)
        go_roundw
        case rel =>
          refine ⟨j + 1, vi (by omega), hlt, (fun i hi hl => ?_), hx.trans hx1⟩
          by_cases e : i = j
          · subst e; rw [HY.out]; exact HP.out
          · exact hb.out i (by omega) hl
        case measure => simp [intOf]; omega
    · have hjl : j = l.length := by omega
      subst hjl
      clear hcall
      go_wp2
      go_ret
      exact ⟨by rw [idxF_miss (fun j hj => hb.out j hj hj)]; rfl, hx⟩

theorem encTr_one (l : List Tr) : ∀ u ∈ l.flatMap encTr, u.oneCell' = true := by
  intro u hu
  obtain ⟨x, _, hx⟩ := List.mem_flatMap.1 hu
  simp [encTr] at hx
  rcases hx with h | h | h | h | h | h | h | h | h <;> subst h <;> rfl
theorem encTr_len : ∀ x : Tr, (encTr x).length = 9 := fun _ => rfl

@[go_sem] theorem eql_nil_tr (a : Option Addr) (n c : Nat) (w : World) : (binOp .eql 22 (.slice a n c) (.slice none 0 0)).run Try.prog w = .ok (.bool a.isNone) w := Lib.run_eql_slice_nil w _ _ a n c 0 0 Try.underlying22

theorem clone_tr (v : Value) (l : List Tr) (w : World) (hl : Reads encTr w v l) (hn : l.length ≤ 100000) :
    Calls Try.prog 66 #[v] w fun e w' => ∃ v', e = .returned v' ∧ w'.ownsRow w.heap.size 82 9 v' l.length (l.flatMap encTr) ∧ Ext w w' := by
  obtain ⟨a, cap, rfl, hcap, hmax, hcells⟩ := hl
  obtain ⟨i0, z, hi, hz0, hz1, hz2, hz3⟩ : ∃ i z, Try.prog.info? 82 = some i ∧ i.zero = some z ∧ i.size = 9 ∧ i.bytes = 120 ∧ z.cells.size = 9 := ⟨_, _, rfl, rfl, rfl, rfl, rfl⟩
  cases a with
  | none =>
    have h0 : l = [] := by
      cases l with
      | nil => rfl
      | cons x r =>
        obtain ⟨b, off, h, _⟩ := hcells (by simp)
        cases h
    subst h0
    clear hcells
    go_enter Try.func66, Try.ntmps66
    go_wp2
    go_ret
    exact ⟨_, rfl, World.ownsRow_nil _ _ _ _, Ext.refl _⟩
  | some ad =>
    have hnews : ∀ j u, (l.flatMap encTr)[j]? = some u → w.cell? (ad.add j) = some u := by
      intro j u hju
      have hne : l ≠ [] := fun h => by subst h; simp at hju
      obtain ⟨b, off, h, hc⟩ := hcells hne
      cases h
      rw [add_plain]
      exact hc j u hju
    have HN := Lib.hid hnews
    unfold maxLen at hmax
    clear hcells hnews
    go_enter Try.func66, Try.ntmps66
    go_wp2_with (at_builtin; refine wpList_append_own _ rfl _ _ 22 rfl w.heap.size 82 i0 z 9 120 Try.underlying22 hi hz0 hz1 hz2 hz3 (by decide) _ 0 [] rfl ?c0 ad l.length cap (l.flatMap encTr) rfl ?c1 ?c2 ?c3 ?c4 ?c5 ?c6 ?_)
    case c0 => exact own_new w w.heap.size #[] 82 0 9 (Nat.le_refl _) (Nat.zero_le _) rfl
    case c1 => exact flat_len encTr_len l
    case c2 => exact fun j u hj => ((Ext.refl w).alloc _).cell (HN.out j u hj)
    case c3 => exact encTr_one l
    case c4 => unfold maxLen; omega
    case c5 => omega
    case c6 => simp
    intro v' w1 hown hgrow _
    have hx : Ext w w1 := ((Ext.refl w).alloc _).grown hgrow (by simp) (fun j hj => by simp [Value.ownBlock, Act.eval] at hj; omega)
    clear hgrow
    go_wp2
    go_ret
    exact ⟨_, rfl, hown, hx⟩

/-- cells of a row of the call's own, turned -/
def setAt (xs : List Value) : Nat → List Value → List Value
  | _, [] => xs
  | o, v :: r => setAt (xs.set o v) (o + 1) r
theorem setAt_length : ∀ (vs : List Value) (o : Nat) (xs : List Value), (setAt xs o vs).length = xs.length
  | [], _, _ => rfl
  | v :: r, o, xs => by rw [setAt, setAt_length r]; simp
theorem setAt_get : ∀ (vs : List Value) (o : Nat) (xs : List Value), o + vs.length ≤ xs.length → ∀ t, (setAt xs o vs)[t]? = if o ≤ t ∧ t < o + vs.length then vs[t - o]? else xs[t]?
  | [], o, xs, _, t => by rw [setAt, if_neg (by intro hh; simp at hh; omega)]
  | v :: r, o, xs, h, t => by
    rw [setAt, setAt_get r (o + 1) (xs.set o v) (by simp at h ⊢; omega) t]
    simp only [List.length_cons] at h ⊢
    by_cases h1 : o + 1 ≤ t ∧ t < o + 1 + r.length
    · rw [if_pos h1, if_pos (by omega)]
      obtain ⟨m, rfl⟩ : ∃ m, t = o + 1 + m := ⟨t - (o + 1), by omega⟩
      rw [show o + 1 + m - (o + 1) = m by omega, show o + 1 + m - o = m + 1 by omega]; simp
    · rw [if_neg h1]
      by_cases h2 : t = o
      · subst h2; rw [if_pos ⟨Nat.le_refl _, by omega⟩, List.getElem?_set_self (by omega), Nat.sub_self]; rfl
      · rw [if_neg (by omega), List.getElem?_set_ne (by omega)]
theorem own_setCells {base : Nat} {e : TypeId} {size g n cap : Nat} : ∀ (vs : List Value) (s : Nat) (xs : List Value) (w : World), w.ownsRow base e size (.slice (some ⟨g, 0, none⟩) n cap) n xs →
    (w.setCells g s vs).ownsRow base e size (.slice (some ⟨g, 0, none⟩) n cap) n (setAt xs s vs)
  | [], _, _, _, h => h
  | v :: vs, s, xs, w, h => own_setCells vs (s + 1) _ _ (h.stored s v).1
theorem flat_set {α : Type} {enc : α → List Value} {k : Nat} (hk : ∀ x, (enc x).length = k) (l : List α) (i : Nat) (hi : i < l.length) (x : α) : setAt (l.flatMap enc) (i * k) (enc x) = (l.set i x).flatMap enc := by
  apply List.ext_getElem?
  intro t
  have hb : i * k + k ≤ l.length * k := by rw [← Nat.succ_mul]; exact Nat.mul_le_mul_right _ hi
  rw [setAt_get _ _ _ (by rw [hk, flat_len hk]; exact hb), hk]
  by_cases h0 : k = 0
  · subst h0
    have e1 : ∀ l : List α, l.flatMap enc = [] := fun l => List.eq_nil_of_length_eq_zero (by rw [flat_len hk]; simp)
    rw [e1, e1]; simp
  have hkp : 0 < k := Nat.pos_of_ne_zero h0
  have hdec : t / k * k + t % k = t := by rw [Nat.mul_comm]; exact Nat.div_add_mod t k
  have hm : t % k < k := Nat.mod_lt _ hkp
  by_cases hl : t / k < l.length
  · have a1 := flat_get hk (l.set i x) (t / k) (t % k) (by simpa using hl) hm
    have a2 := flat_get hk l (t / k) (t % k) hl hm
    rw [hdec] at a1 a2
    rw [a1, a2]
    by_cases he : t / k = i
    · rw [if_pos (by rw [← he]; omega)]
      have : t - i * k = t % k := by rw [← he]; omega
      rw [this]; simp [List.getElem_set, he]
    · have hne : ¬ (i * k ≤ t ∧ t < i * k + k) := fun hh => he (Nat.div_eq_of_lt_le (by omega) (by rw [Nat.add_mul]; omega))
      rw [if_neg hne]; simp [List.getElem_set, Ne.symm he]
  · have hge : l.length * k ≤ t := by
      rw [← hdec]
      exact Nat.le_trans (Nat.mul_le_mul_right k (Nat.le_of_not_lt hl)) (Nat.le_add_right _ _)
    rw [if_neg (by omega), List.getElem?_eq_none (by rw [flat_len hk]; exact hge), List.getElem?_eq_none (by rw [flat_len hk]; simpa using hge)]
end Go.Proofs.Ytmobdmljbbckiaa
