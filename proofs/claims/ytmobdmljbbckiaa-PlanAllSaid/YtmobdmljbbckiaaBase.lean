/- Plain words on worlds and slices, of whatever program: what extends a world, how a slice of records reads as a list. -/
import Derived.WalkKit
import Derived.WalkSpells
import Derived.WalkLawsBesides
import Derived.Deep.QuietTactic
import Derived.BigQuiet
import Derived.Lib.Hide
import Derived.Deep.CutRange
import Derived.Deep.DeepCutAuto
import Derived.Deep.LoopGhost
import Derived.Shelf.Abstract
import Derived.Lib.SliceRun
import Derived.Lib.ConvBytes
namespace Go.Proofs.Ytmobdmljbbckiaa
open Go.RowKit

/-- w' is w with new blocks alone (what lay in w lies unturned). -/
abbrev Ext (w w' : World) : Prop := Below w.heap.size w w'

theorem Ext.refl (w : World) : Ext w w := Below.refl _ _
theorem Ext.trans {a b c : World} (h : Ext a b) (k : Ext b c) : Ext a c := Below.trans h (Below.mono k h.size)
theorem Ext.drewN {a b : World} (h : Ext a b) (n : Nat) : Ext a (b.drewN n) := below_drewN h n
theorem Ext.drew {a b : World} (h : Ext a b) : Ext a b.drew := Below.drew h
theorem Ext.alloc {a b : World} (h : Ext a b) (o : Obj) : Ext a (b.alloc o) := Below.alloc h h.size o
theorem Ext.cell {w w' : World} (h : Ext w w') {a : Addr} {v : Value} (hv : w.cell? a = some v) : w'.cell? a = some v :=
  (Below.cell h (World.block_lt_of_cell? w a hv)).trans hv
theorem Ext.frozen {w w' : World} (h : Ext w w') {a : Addr} {v : Value} (hv : w.cell? a = some v) : w'.frozen? a = w.frozen? a :=
  Below.frozen h (World.block_lt_of_cell? w a hv)
/-- what lay reads as it did: two rules for the walk -/
theorem Ext.rules {W w1 : World} (h : Ext W w1) : (∀ b o, b < W.heap.size → w1.cell? ⟨b, o, none⟩ = W.cell? ⟨b, o, none⟩) ∧ (∀ b o, b < W.heap.size → w1.frozen? ⟨b, o, none⟩ = W.frozen? ⟨b, o, none⟩) :=
  ⟨fun b o hb => Below.cell h (p := ⟨b, o, none⟩) hb, fun b o hb => Below.frozen h (p := ⟨b, o, none⟩) hb⟩
theorem Below.ext {B : Nat} {w a b : World} (h : Below B w a) (k : Ext a b) (hB : B ≤ a.heap.size) : Below B w b := h.trans (Below.mono k hB)
theorem ownsRow_drewN {w : World} {base : Nat} {e : TypeId} {size : Nat} {v : Value} {n : Nat} {xs : List Value} (h : w.ownsRow base e size v n xs) (q : Nat) : (w.drewN q).ownsRow base e size v n xs := h

theorem vi {k : IntKind} {a b : Int} (h : a = b) : Value.int k a = Value.int k b := by rw [h]

/-- A slice reads as a list: each record by 'enc' as so many cells. -/
def Reads {α : Type} (enc : α → List Value) (w : World) (v : Value) (l : List α) : Prop :=
  ∃ a cap, v = .slice a l.length cap ∧ l.length ≤ cap ∧ cap ≤ maxLen ∧
    (l ≠ [] → ∃ b off, a = some ⟨b, off, none⟩ ∧ ∀ t u, (l.flatMap enc)[t]? = some u → w.cell? ⟨b, off + t, none⟩ = some u)

theorem Reads.ext {α : Type} {enc : α → List Value} {w w' : World} {v : Value} {l : List α} (h : Reads enc w v l) (e : Ext w w') : Reads enc w' v l := by
  obtain ⟨a, cap, hv, h1, h2, h3⟩ := h
  refine ⟨a, cap, hv, h1, h2, fun hne => ?_⟩
  obtain ⟨b, off, ha, hc⟩ := h3 hne
  exact ⟨b, off, ha, fun t u ht => Ext.cell e (hc t u ht)⟩

theorem Reads.nil {α : Type} (enc : α → List Value) (w : World) (a : Option Addr) (cap : Nat) (h : cap ≤ maxLen) : Reads enc w (.slice a 0 cap) ([] : List α) :=
  ⟨a, cap, rfl, Nat.zero_le _, h, fun h => absurd rfl h⟩

theorem flat_get {α : Type} {enc : α → List Value} {k : Nat} (hk : ∀ x, (enc x).length = k) : ∀ (l : List α) (i c : Nat) (hi : i < l.length), c < k → (l.flatMap enc)[i * k + c]? = (enc l[i])[c]?
  | x :: l, 0, c, _, hc => by
    rw [List.flatMap_cons, List.getElem?_append_left (by rw [hk]; omega)]; simp
  | x :: l, i + 1, c, hi, hc => by
    rw [List.flatMap_cons, List.getElem?_append_right (by rw [hk, Nat.add_mul]; omega), hk]
    have : (i + 1) * k + c - k = i * k + c := by rw [Nat.add_mul]; omega
    rw [this]
    exact flat_get hk l i c (by simpa using hi) hc

theorem flat_len {α : Type} {enc : α → List Value} {k : Nat} (hk : ∀ x, (enc x).length = k) : ∀ (l : List α), (l.flatMap enc).length = l.length * k
  | [] => by simp
  | x :: l => by rw [List.flatMap_cons, List.length_append, hk, flat_len hk l, List.length_cons, Nat.add_mul]; omega

/-- What the call owns reads as a list. -/
theorem Reads.of_owns {α : Type} {enc : α → List Value} {w : World} {base : Nat} {e : TypeId} {size : Nat} {v : Value} {l : List α}
    (h : w.ownsRow base e size v l.length (l.flatMap enc)) : Reads enc w v l := by
  obtain ⟨h1, ⟨hv, hn⟩ | ⟨g, cap, cur, hv, _, hg, hn, hcap, hcur, htake⟩⟩ := h
  · have : l = [] := List.length_eq_zero_iff.1 hn
    subst this
    exact ⟨none, 0, hv, Nat.le_refl _, Nat.zero_le _, fun h => absurd rfl h⟩
  · refine ⟨_, cap, hv, hn, hcap, fun _ => ⟨g, 0, rfl, fun t u ht => ?_⟩⟩
    have hlt : t < l.length * size := by rw [← h1]; exact (List.getElem?_eq_some_iff.1 ht).1
    rw [← htake, List.getElem?_take, if_pos hlt] at ht
    simp only [World.cell?, hg, Nat.zero_add]
    simpa using ht

def encI (n : Int) : List Value := [.int .i64 n]
theorem flat_I (l : List Int) : l.flatMap encI = l.map (Value.int .i64) := by
  induction l with
  | nil => rfl
  | cons x l ih => rw [List.flatMap_cons, ih]; rfl

/-- A slice whose elements are one cell each: an element's cell. -/
theorem Reads.one_at {α : Type} {enc1 : α → Value} {w : World} {b off : Nat} {l : List α} (hc : ∀ t u, (l.flatMap fun x => [enc1 x])[t]? = some u → w.cell? ⟨b, off + t, none⟩ = some u) {j : Nat} (hj : j < l.length) :
    w.cell? ⟨b, off + j, none⟩ = some (enc1 l[j]) := by
  apply hc
  have h := flat_get (enc := fun x => [enc1 x]) (k := 1) (fun _ => rfl) l j 0 hj (by omega)
  simpa using h
def encB (b : UInt8) : List Value := [.int .u8 (b.toNat : Int)]
def encS (s : ByteArray) : List Value := [.string s]

/-- A slice of numbers: an element's cell. -/
theorem Reads.int_at {w : World} {b off : Nat} {l : List Int} (hc : ∀ t u, (l.flatMap encI)[t]? = some u → w.cell? ⟨b, off + t, none⟩ = some u) {j : Nat} (hj : j < l.length) :
    w.cell? ⟨b, off + j, none⟩ = some (.int .i64 l[j]) := by
  apply hc
  rw [flat_I]; simp [hj]

/-- An array of bools in a block of its own, at its head. -/
def Bools (n : Nat) (w : World) (b : Nat) (S : Nat → Bool) : Prop := ∀ j, j < n → w.cell? ⟨b, j, none⟩ = some (.bool (S j)) ∧ w.frozen? ⟨b, j, none⟩ = false
theorem Bools.ext {n : Nat} {w w' : World} {b : Nat} {S : Nat → Bool} (h : Bools n w b S) (e : Ext w w') : Bools n w' b S :=
  fun j hj => ⟨Ext.cell e (h j hj).1, (Ext.frozen e (h j hj).1).trans (h j hj).2⟩

theorem Bools.block {n : Nat} {w : World} {b : Nat} {S : Nat → Bool} (h : Bools n w b S) (hn : 0 < n) : b < w.heap.size := World.block_lt_of_cell? w _ (h 0 hn).1
theorem Bools.set {n : Nat} {w : World} {b : Nat} {S : Nat → Bool} (h : Bools n w b S) {j : Nat} (hj : j < n) (v : Bool) :
    Bools n (w.setCell ⟨b, j, none⟩ (.bool v)) b (fun t => if t = j then v else S t) := by
  intro t ht
  refine ⟨?_, (World.frozen?_setCell _ _ _ _).trans (h t ht).2⟩
  by_cases e : t = j
  · subst e; rw [World.cell?_setCell_same _ _ _ (h t ht).1]; simp
  · rw [World.cell?_setCell_other _ _ _ _ (by simp [e])]; simp [e, (h t ht).1]
theorem Bools.set_other {n : Nat} {w : World} {b : Nat} {S : Nat → Bool} (h : Bools n w b S) {a : Addr} (ha : a.block ≠ b) (v : Value) : Bools n (w.setCell a v) b S := by
  intro t ht
  exact ⟨(World.cell?_setCell_other _ _ _ _ (by intro e; exact ha (by rw [e]))).trans (h t ht).1, (World.frozen?_setCell _ _ _ _).trans (h t ht).2⟩
theorem Bools.drewN {n : Nat} {w : World} {b : Nat} {S : Nat → Bool} (h : Bools n w b S) (q : Nat) : Bools n (w.drewN q) b S := h
theorem Bools.congr {n : Nat} {w : World} {b : Nat} {S S' : Nat → Bool} (h : Bools n w b S) (e : ∀ j, j < n → S j = S' j) : Bools n w b S' := fun j hj => by rw [← e j hj]; exact h j hj
theorem Bools.below {n B : Nat} {w w' : World} {b : Nat} {S : Nat → Bool} (h : Bools n w b S) (hb : Below B w w') (hB : b < B) : Bools n w' b S :=
  fun j hj => ⟨(Below.cell hb (p := ⟨b, j, none⟩) hB).trans (h j hj).1, (Below.frozen hb (p := ⟨b, j, none⟩) hB).trans (h j hj).2⟩
theorem upto_step (S : Nat → Bool) (k : Nat) (v : Bool) (h : S k = v) : (fun t => if t = k then v else decide (t < k) && S t) = fun j => decide (j < k + 1) && S j := by
  funext t
  by_cases e : t = k
  · subst e; simp [h]
  · rw [if_neg e]
    by_cases hl : t < k
    · simp [hl, show t < k + 1 by omega]
    · simp [hl, show ¬ t < k + 1 by omega]
theorem bools_new (n : Nat) (w : World) (c : Array Value) (T : TypeId) (hc : c = Array.replicate n (.bool false)) : Bools n (w.alloc (.cells c T)) w.heap.size (fun _ => false) := by
  intro j hj
  subst hc
  refine ⟨?_, World.frozen?_alloc_at _ _ _ _ rfl⟩
  rw [World.cell?_alloc_at _ _ _ _ rfl]
  simp [hj]

/-- the place of the first that is so, or -1 -/
def idxF {α : Type} (p : α → Bool) (l : List α) : Int := if l.any p then (l.findIdx p : Int) else -1
theorem findIdx_hit {α : Type} {p : α → Bool} {l : List α} {k : Nat} (hk : k < l.length) (h : p l[k] = true) (hb : ∀ j (hj : j < k), p (l[j]'(by omega)) = false) : l.findIdx p = k :=
  (List.findIdx_eq hk).2 ⟨h, fun j hj => by simpa using hb j hj⟩
theorem idxF_hit {α : Type} {p : α → Bool} {l : List α} {k : Nat} (hk : k < l.length) (h : p l[k] = true) (hb : ∀ j (hj : j < k), p (l[j]'(by omega)) = false) : idxF p l = k := by
  unfold idxF
  rw [if_pos (List.any_eq_true.2 ⟨_, List.getElem_mem hk, h⟩), findIdx_hit hk h hb]
theorem idxF_miss {α : Type} {p : α → Bool} {l : List α} (hb : ∀ j (hj : j < l.length), p l[j] = false) : idxF p l = -1 := by
  unfold idxF
  rw [if_neg]
  intro h
  obtain ⟨x, hx, hp⟩ := List.any_eq_true.1 h
  obtain ⟨j, hj, rfl⟩ := List.getElem_of_mem hx
  rw [hb j hj] at hp; cases hp
theorem idxF_cases {α : Type} (p : α → Bool) (l : List α) : (idxF p l = -1 ∧ ∀ x ∈ l, p x = false) ∨ ∃ k, ∃ hk : k < l.length, idxF p l = (k : Int) ∧ p l[k] = true ∧ ∀ j (hj : j < k), p (l[j]'(by omega)) = false := by
  cases hany : l.any p with
  | false => exact .inl ⟨by simp [idxF, hany], fun x hx => by
      cases hp : p x with
      | false => rfl
      | true => rw [List.any_eq_true.2 ⟨x, hx, hp⟩] at hany; cases hany⟩
  | true =>
    have hk0 : l.findIdx p < l.length := List.findIdx_lt_length_of_exists (by simpa using hany)
    exact .inr ⟨l.findIdx p, hk0, by simp [idxF, hany], List.findIdx_getElem, fun j hj => by simpa using List.not_of_lt_findIdx hj⟩
theorem idxF_nonneg {α : Type} (p : α → Bool) (l : List α) : decide (0 ≤ idxF p l) = l.any p := by
  unfold idxF; split <;> rename_i h
  · simp at h ⊢; simpa using h
  · simp at h ⊢; simpa using h

/-- a row of the call's own, in a world that extends it -/
theorem own_ext {w w' : World} {base : Nat} {e : TypeId} {size : Nat} {v : Value} {n : Nat} {xs : List Value} (h : w.ownsRow base e size v n xs) (hx : Ext w w') : w'.ownsRow base e size v n xs := by
  obtain ⟨h1, h2 | ⟨g, c, cur, hv, hg, hh, r⟩⟩ := h
  · exact ⟨h1, .inl h2⟩
  · exact ⟨h1, .inr ⟨g, c, cur, hv, hg, by rw [hx.block g (Array.getElem?_eq_some_iff.1 hh).1]; exact hh, r⟩⟩

theorem own_mono {w : World} {base base' : Nat} {e : TypeId} {size : Nat} {v : Value} {n : Nat} {xs : List Value} (h : w.ownsRow base e size v n xs) (hb : base' ≤ base) : w.ownsRow base' e size v n xs := by
  obtain ⟨h1, h2 | ⟨g, c, cur, hv, hg, r⟩⟩ := h
  · exact ⟨h1, .inl h2⟩
  · exact ⟨h1, .inr ⟨g, c, cur, hv, Nat.le_trans hb hg, r⟩⟩

/-- the cells of a block that has just been laid -/
theorem cells_new (w : World) (c : Array Value) (e : TypeId) (b : Nat) (hb : b = w.heap.size) : ∀ (j : Nat) (u : Value), c.toList[j]? = some u → (w.alloc (.cells c e)).cell? ((⟨b, 0, none⟩ : Addr).add j) = some u := by
  intro j u hj
  subst hb
  rw [show ((⟨w.heap.size, 0, none⟩ : Addr).add j) = ⟨w.heap.size, j, none⟩ by simp [Addr.add]; omega, World.cell?_alloc_at _ _ _ _ rfl]
  simpa using hj

/-- a literal slice: a row of the call's own -/
theorem own_new (w : World) (base : Nat) (c : Array Value) (e : TypeId) (n size : Nat) (hb : base ≤ w.heap.size) (hn : n ≤ maxLen) (hc : c.size = n * size) :
    (w.alloc (.cells c e)).ownsRow base e size (.slice (some ⟨w.heap.size, 0, none⟩) n n) n c.toList :=
  ⟨by simpa using hc, .inr ⟨w.heap.size, n, c, rfl, hb, heap_alloc_new w _, Nat.le_refl _, hn, hc, by rw [List.take_of_length_le (by simp; omega)]⟩⟩

/-- behind an append a block of another element type is as it was -/
theorem keep_other {w w2 w' : World} {base : Nat} {e : TypeId} {size : Nat} {v : Value} {n : Nat} {xs : List Value} (h : w.ownsRow base e size v n xs) (hx : Ext w w2) (hg : w2.grownBy w' v.ownBlock)
    {g : Nat} {c : Array Value} {e' : TypeId} {f : Nat × Nat} (hh : w2.heap[g]? = some (.cells c e' f)) (hne : e' ≠ e) : w'.heap[g]? = some (.cells c e' f) := by
  by_cases hgv : some g = v.ownBlock
  · exfalso
    obtain ⟨_, ⟨rfl, _⟩ | ⟨g', cap, cur, rfl, _, hcur, _⟩⟩ := own_ext h hx
    · cases hgv
    · simp [Value.ownBlock] at hgv
      subst hgv
      rw [hh] at hcur
      cases hcur
      exact hne rfl
  · rw [hg.block g (Array.getElem?_eq_some_iff.1 hh).1 hgv]; exact hh

/-- what lies in a row of the call's own, cut -/
theorem own_cut {w : World} {base : Nat} {e : TypeId} {size : Nat} {a : Option Addr} {n cap : Nat} {xs : List Value} (h : w.ownsRow base e size (.slice a n cap) n xs) {i : Nat} (hi : i ≤ n) (ha : a ≠ none) :
    w.ownsRow base e size (.slice a i cap) i (xs.take (i * size)) := by
  obtain ⟨h1, ⟨hv, hn⟩ | ⟨g, c, cur, hv, hg, hh, hnc, hcm, hcs, ht⟩⟩ := h
  · cases hv; exact absurd rfl ha
  · cases hv
    have hm : i * size ≤ n * size := Nat.mul_le_mul_right _ hi
    refine ⟨by rw [List.length_take, h1]; omega, .inr ⟨g, _, cur, rfl, hg, hh, by omega, hcm, hcs, ?_⟩⟩
    rw [← ht, List.take_take, Nat.min_eq_left hm]
theorem own_setCells_past {base : Nat} {e : TypeId} {size : Nat} {g n cap : Nat} {xs : List Value} : ∀ (vs : List Value) (s : Nat) (w : World), w.ownsRow base e size (.slice (some ⟨g, 0, none⟩) n cap) n xs → n * size ≤ s →
    (w.setCells g s vs).ownsRow base e size (.slice (some ⟨g, 0, none⟩) n cap) n xs
  | [], _, _, h, _ => h
  | v :: vs, s, w, h, hs => by
    have h2 := (h.stored s v).1
    rw [List.set_eq_of_length_le (by rw [h.1]; exact hs)] at h2
    exact own_setCells_past vs (s + 1) _ h2 (by omega)
theorem below_setCells {B : Nat} {w0 : World} {g : Nat} (hg : B ≤ g) : ∀ (vs : List Value) (s : Nat) (w : World), Below B w0 w → Below B w0 (w.setCells g s vs)
  | [], _, _, h => h
  | v :: vs, s, w, h => below_setCells hg vs (s + 1) _ (Below.setCell h hg v)

/-- '[]byte(s)': a new row of the call's own that reads as the bytes. -/
theorem conv_bytes {P : Program} (w : World) (src dst e : TypeId) (s : ByteArray) (hs : P.underlying src = some .string) (hd : P.underlying dst = some (.slice e)) (he : P.underlying e = some (.int .u8)) (hm : s.size ≤ maxLen) :
    ∃ c w2, (convert src dst (.string s)).run P w = .ok (.slice (some ⟨w.heap.size, 0, none⟩) s.size c) w2 ∧ Ext w w2 ∧ s.size ≤ c ∧ c ≤ maxLen ∧
      ∀ j (h : j < s.size), w2.cell? ⟨w.heap.size, j, none⟩ = some (.int .u8 s[j].toNat) := by
  refine ⟨_, _, Lib.run_convert_string_bytes w src dst e s hs hd he, ⟨?_, ?_, ?_, by rw [Lib.bytesWorld_size]; omega, fun k hk => Lib.bytesWorld_at_old w e s k hk⟩, grownCap_ge _ _ _ _, grownCap_le_maxLen _ _ _ _ hm, fun j h => ?_⟩
  · simp [Lib.bytesWorld, World.freeze]; rfl
  · simp [Lib.bytesWorld, World.freeze]
  · simp [Lib.bytesWorld, World.freeze]; rfl
  · rw [Lib.bytesWorld_cell w e s j h]
    simp [List.getD, ByteArray.getElem_eq_getElem_data, h]

theorem sliceOf_own {w : World} {base : Nat} {e : TypeId} {size : Nat} {v : Value} {n : Nat} {xs : List Value} (h : w.ownsRow base e size v n xs) : ∃ a cap, v = .slice a n cap := by
  obtain ⟨_, ⟨rfl, h0⟩ | ⟨g, cap, cur, rfl, _⟩⟩ := h
  · exact ⟨none, 0, by rw [h0]⟩
  · exact ⟨_, cap, rfl⟩

end Go.Proofs.Ytmobdmljbbckiaa
