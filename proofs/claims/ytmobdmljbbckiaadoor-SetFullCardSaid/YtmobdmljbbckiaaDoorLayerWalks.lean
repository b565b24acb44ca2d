/- What the functions of package layer do to the world. -/
import Derived.Test.YtmobdmljbbckiaaDoorSetUnion
import Derived.Test.YtmobdmljbbckiaaDoorRegionAny
namespace Go.Proofs.YtmobdmljbbckiaaDoor
open Go.RowKit
set_option maxHeartbeats 3200000
set_option maxRecDepth 100000

/-- a set in memory of the call's own -/
def OwnSet (B : Nat) (w : World) (v : Value) (l : List Tr) : Prop := w.ownsRow B 28 9 v l.length (l.flatMap encTr)
theorem OwnSet.ext {B : Nat} {w w' : World} {v : Value} {l : List Tr} (h : OwnSet B w v l) (hx : Ext w w') : OwnSet B w' v l := own_ext h hx
theorem OwnSet.reads {B : Nat} {w : World} {v : Value} {l : List Tr} (h : OwnSet B w v l) : Reads encTr w v l := Reads.of_owns h
theorem OwnSet.mono {B B' : Nat} {w : World} {v : Value} {l : List Tr} (h : OwnSet B w v l) (hB : B' ≤ B) : OwnSet B' w v l := own_mono h hB
theorem OwnSet.slice {B : Nat} {w : World} {v : Value} {l : List Tr} (h : OwnSet B w v l) : ∃ a cap, v = .slice a l.length cap := sliceOf_own h
theorem OwnSet.nil (B : Nat) (w : World) : OwnSet B w (.slice none 0 0) [] := World.ownsRow_nil _ _ _ _
theorem Reads.slice {α : Type} {enc : α → List Value} {w : World} {v : Value} {l : List α} (h : Reads enc w v l) : ∃ a cap, v = .slice a l.length cap := by
  obtain ⟨a, cap, h, _⟩ := h; exact ⟨a, cap, h⟩

theorem part_own (va vb : Value) (a b : List Tr) (is : Bool) (w : World) (ha : Reads encTr w va a) (hb : Reads encTr w vb b) (hs : Rises cmpTr b) (hna : a.length ≤ 100000) (hnb : b.length ≤ 100000) :
    Calls Tryd.prog 42 #[va, vb, .bool is] w fun e w' => ∃ p cap, e = .returned (.slice p (partL a b is).length cap) ∧ OwnSet w.heap.size w' (.slice p (partL a b is).length cap) (partL a b is) ∧ Ext w w' :=
  (part_any va vb a b is w ha hb hs hna hnb).mono fun e w' ⟨v', h1, h2, h3⟩ => by
    obtain ⟨p, cap, rfl⟩ := sliceOf_own h2
    exact ⟨p, cap, h1, h2, h3⟩

theorem rightErr_pair {a b : List Tr} (h : rightErr [a, b] = none) : SetOk a ∧ SetOk b := betweenErr_none h

theorem right_pair (va vb : Value) (a b : List Tr) (w : World) (ha : Reads encTr w va a) (hb : Reads encTr w vb b) (r : Option Int) (hr : rightErr [a, b] = r) :
    Calls Tryd.prog 17 #[.slice (some ⟨w.heap.size, 0, none⟩) 2 2] (w.alloc (.cells #[va, vb] 22)) fun e w' => e = .returned (errV r) ∧ Ext w w' := by
  have h := right_any _ [a, b] _ (readsSets_new w [va, vb] [a, b] rfl (by simp) (fun j h h' => by
    match j, h with
    | 0, _ => exact ha
    | 1, _ => exact hb))
  rw [hr] at h
  exact h.mono fun e w' ⟨h1, h2⟩ => ⟨h1, ((Ext.refl w).alloc _).trans h2⟩

theorem layerCheck_any (va vt : Value) (l : Ly) (w : World) (ha : Reads encTr w va l.add) (ht : Reads encTr w vt l.take) :
    Calls Tryd.prog 41 #[.agg #[va, vt]] w fun e w' => e = .returned (errV (lyErr l)) ∧ Ext w w' := by
  have hx := (Ext.refl w).alloc (.cells #[va, vt] 43)
  have hb := alloc_heap_new w (.cells #[va, vt] 43)
  have hE : lyErr l = (rightErr [l.add, l.take]).or (if (partL l.add l.take true).length > 0 then some 7 else none) := rfl
  have hright := fun W (h : Ext w W) r hr => right_pair va vt l.add l.take W (ha.ext h) (ht.ext h) r hr
  have hpart := fun W (h : Ext w W) hs h1 h2 => part_own va vt l.add l.take true W (ha.ext h) (ht.ext h) hs h1 h2
  obtain ⟨aa, ca, rfl⟩ := ha.slice
  obtain ⟨at', ct, rfl⟩ := ht.slice
  cases hr : rightErr [l.add, l.take] with
  | some n =>
    have h1 := fun W h => hright W h _ hr
    dsimp only [errV] at h1
    have HH := Lib.hid (And.intro h1 (show lyErr l = some n by rw [hE, hr]; rfl))
    clear hright hpart h1 hE hr ha ht
    go_enter Tryd.func41, Tryd.ntmps41
    go_upto_region 1 with fail
    generalize hwb : World.alloc w _ = wb at hx hb ⊢
    clear hwb
    have A := cells_at hb
    go_wp2_with (go_at_call 17; refine (HH.out.1 _ hx).mono ?_; rintro e w1 ⟨rfl, hx1⟩)
    go_ret
    exact ⟨by rw [HH.out.2]; rfl, hx.trans hx1⟩
  | none =>
    have h1 := fun W h => hright W h _ hr
    dsimp only [errV] at h1
    obtain ⟨hs1, hs2⟩ := rightErr_pair hr
    have h2 := fun W h => hpart W h hs2.2.2 (Nat.le_trans hs1.1 (by decide)) (Nat.le_trans hs2.1 (by decide))
    rw [hr] at hE
    generalize hp : (partL l.add l.take true).length = np at h2 hE
    have hpe : ∃ q : Bool, decide (0 < np) = q := ⟨_, rfl⟩
    have HH := Lib.hid (And.intro h1 (And.intro h2 hE))
    clear hright hpart h1 hE hr ha ht h2 hp hs1 hs2 hpe
    by_cases hn : 0 < np
    · go_enter Tryd.func41, Tryd.ntmps41
      go_upto_region 1 with fail
      generalize hwb : World.alloc w _ = wb at hx hb ⊢
      clear hwb
      have A := cells_at hb
      go_upto_region 4 with (go_at_call 17; refine (HH.out.1 _ hx).mono ?_; rintro e w1 ⟨rfl, hx1⟩)
      have A := cells_at (heap_ext hx1 hb)
      go_wp2_with (go_at_call 42; refine (HH.out.2.1 _ (hx.trans hx1)).mono ?_; rintro e w2 ⟨p, cap, rfl, _, hx2⟩)
      go_ret
      exact ⟨by rw [HH.out.2.2, if_pos hn]; rfl, (hx.trans hx1).trans hx2⟩
    · obtain rfl : np = 0 := by omega
      go_enter Tryd.func41, Tryd.ntmps41
      go_upto_region 1 with fail
      generalize hwb : World.alloc w _ = wb at hx hb ⊢
      clear hwb
      have A := cells_at hb
      go_upto_region 4 with (go_at_call 17; refine (HH.out.1 _ hx).mono ?_; rintro e w1 ⟨rfl, hx1⟩)
      have A := cells_at (heap_ext hx1 hb)
      go_wp2_with (go_at_call 42; refine (HH.out.2.1 _ (hx.trans hx1)).mono ?_; rintro e w2 ⟨p, cap, rfl, _, hx2⟩)
      go_ret
      exact ⟨by rw [HH.out.2.2]; rfl, (hx.trans hx1).trans hx2⟩

/-- a cell of a block of another element type, set -/
theorem own_set_other {w : World} {base : Nat} {e : TypeId} {size : Nat} {v : Value} {n : Nat} {xs : List Value} (h : w.ownsRow base e size v n xs) {b : Nat} {c : Array Value} {T : TypeId} {f : Nat × Nat} (hb : w.heap[b]? = some (.cells c T f)) (hT : T ≠ e) (i : Nat) (u : Value) :
    (w.setCell ⟨b, i, none⟩ u).ownsRow base e size v n xs := by
  obtain ⟨h1, h2 | ⟨g, cap, cur, e1, e2, hcur, r⟩⟩ := h
  · exact ⟨h1, .inl h2⟩
  · refine ⟨h1, .inr ⟨g, cap, cur, e1, e2, ?_, r⟩⟩
    rw [Below.heap_setCell _ _ _ _ (fun e => by subst e; rw [hb] at hcur; cases hcur; exact hT rfl)]
    exact hcur
/-- a block of two cells, both set -/
theorem set_two {w : World} {b : Nat} {c0 c1 : Value} {T : TypeId} (hb : w.heap[b]? = some (.cells #[c0, c1] T)) (u0 u1 : Value) {B : Nat} {w0 : World} (hB : B ≤ b) (hw : Below B w0 w) :
    ∃ w', w' = (w.setCell ⟨b, 0, none⟩ u0).setCell ⟨b, 1, none⟩ u1 ∧ w'.heap[b]? = some (.cells #[u0, u1] T) ∧ Below B w0 w' ∧
      ∀ {base : Nat} {e : TypeId} {size : Nat} {v : Value} {n : Nat} {xs : List Value}, T ≠ e → w.ownsRow base e size v n xs → w'.ownsRow base e size v n xs := by
  have h0 := heap_setCell_same w b 0 _ _ u0 hb
  exact ⟨_, rfl, heap_setCell_same _ b 1 _ _ u1 h0, (hw.setCell hB _).setCell hB _, fun hT h => own_set_other (own_set_other h hb hT 0 u0) h0 hT 1 u1⟩
end Go.Proofs.YtmobdmljbbckiaaDoor
