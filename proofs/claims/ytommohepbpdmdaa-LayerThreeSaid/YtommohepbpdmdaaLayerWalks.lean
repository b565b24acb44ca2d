/- What the functions of package layer do to the world. -/
import Derived.Test.YtommohepbpdmdaaSetUnion
import Derived.Test.YtommohepbpdmdaaRegionAny
namespace Go.Proofs.Ytommohepbpdmdaa
open Go.RowKit
set_option maxHeartbeats 3200000
set_option maxRecDepth 100000

/-- a set in memory of the call's own -/
def OwnSet (B : Nat) (w : World) (v : Value) (l : List Tr) : Prop := w.ownsRow B 39 9 v l.length (l.flatMap encTr)
theorem OwnSet.ext {B : Nat} {w w' : World} {v : Value} {l : List Tr} (h : OwnSet B w v l) (hx : Ext w w') : OwnSet B w' v l := own_ext h hx
theorem OwnSet.reads {B : Nat} {w : World} {v : Value} {l : List Tr} (h : OwnSet B w v l) : Reads encTr w v l := Reads.of_owns h
theorem OwnSet.mono {B B' : Nat} {w : World} {v : Value} {l : List Tr} (h : OwnSet B w v l) (hB : B' ≤ B) : OwnSet B' w v l := own_mono h hB
theorem OwnSet.slice {B : Nat} {w : World} {v : Value} {l : List Tr} (h : OwnSet B w v l) : ∃ a cap, v = .slice a l.length cap := sliceOf_own h
theorem OwnSet.nil (B : Nat) (w : World) : OwnSet B w (.slice none 0 0) [] := World.ownsRow_nil _ _ _ _
theorem Reads.slice {α : Type} {enc : α → List Value} {w : World} {v : Value} {l : List α} (h : Reads enc w v l) : ∃ a cap, v = .slice a l.length cap := by
  obtain ⟨a, cap, h, _⟩ := h; exact ⟨a, cap, h⟩

theorem part_own (va vb : Value) (a b : List Tr) (is : Bool) (w : World) (ha : Reads encTr w va a) (hb : Reads encTr w vb b) (hs : Rises cmpTr b) (hna : a.length ≤ 100000) (hnb : b.length ≤ 100000) :
    Calls Try.prog 70 #[va, vb, .bool is] w fun e w' => ∃ p cap, e = .returned (.slice p (partL a b is).length cap) ∧ OwnSet w.heap.size w' (.slice p (partL a b is).length cap) (partL a b is) ∧ Ext w w' :=
  (part_any va vb a b is w ha hb hs hna hnb).mono fun e w' ⟨v', h1, h2, h3⟩ => by
    obtain ⟨p, cap, rfl⟩ := sliceOf_own h2
    exact ⟨p, cap, h1, h2, h3⟩

theorem rightErr_pair {a b : List Tr} (h : rightErr [a, b] = none) : SetOk a ∧ SetOk b := betweenErr_none h

theorem right_pair (va vb : Value) (a b : List Tr) (w : World) (ha : Reads encTr w va a) (hb : Reads encTr w vb b) (r : Option Int) (hr : rightErr [a, b] = r) :
    Calls Try.prog 63 #[.slice (some ⟨w.heap.size, 0, none⟩) 2 2] (w.alloc (.cells #[va, vb] 32)) fun e w' => e = .returned (errV r) ∧ Ext w w' := by
  have h := right_any _ [a, b] _ (readsSets_new w [va, vb] [a, b] rfl (by simp) (fun j h h' => by
    match j, h with
    | 0, _ => exact ha
    | 1, _ => exact hb))
  rw [hr] at h
  exact h.mono fun e w' ⟨h1, h2⟩ => ⟨h1, ((Ext.refl w).alloc _).trans h2⟩

theorem layerCheck_any (va vt : Value) (l : Ly) (w : World) (ha : Reads encTr w va l.add) (ht : Reads encTr w vt l.take) :
    Calls Try.prog 29 #[.agg #[va, vt]] w fun e w' => e = .returned (errV (lyErr l)) ∧ Ext w w' := by
  have hx := (Ext.refl w).alloc (.cells #[va, vt] 75)
  have hb := alloc_heap_new w (.cells #[va, vt] 75)
  have hE : lyErr l = (rightErr [l.add, l.take]).or (if (partL l.add l.take true).length > 0 then some 7 else none) := rfl
  have hright := fun W (h : Ext w W) r hr => right_pair va vt l.add l.take W (ha.ext h) (ht.ext h) r hr
  have hpart := fun W (h : Ext w W) hs h1 h2 => part_own va vt l.add l.take true W (ha.ext h) (ht.ext h) hs h1 h2
  obtain ⟨aa, ca, rfl⟩ := ha.slice
  obtain ⟨at', ct, rfl⟩ := ht.slice
  cases hr : rightErr [l.add, l.take] with
  | some n =>
    have h1 := fun W h => hright W h _ hr
    dsimp only [errV] at h1
    have HH := Lib.hid (And.intro h1 (show lyErr l = some n by rw [hE, hr]; rfl))
    clear hright hpart h1 hE hr ha ht
    go_enter Try.func29, Try.ntmps29
    go_upto_region 1 with fail
    generalize hwb : World.alloc w _ = wb at hx hb ⊢
    clear hwb
    have A := cells_at hb
    go_wp2_with (go_at_call 63; refine (HH.out.1 _ hx).mono ?_; rintro e w1 ⟨rfl, hx1⟩)
    go_ret
    exact ⟨by rw [HH.out.2]; rfl, hx.trans hx1⟩
  | none =>
    have h1 := fun W h => hright W h _ hr
    dsimp only [errV] at h1
    obtain ⟨hs1, hs2⟩ := rightErr_pair hr
    have h2 := fun W h => hpart W h hs2.2.2 (Nat.le_trans hs1.1 (by decide)) (Nat.le_trans hs2.1 (by decide))
    rw [hr] at hE
    generalize hp : (partL l.add l.take true).length = np at h2 hE
    have hpe : ∃ q : Bool, decide (0 < np) = q := ⟨_, rfl⟩
    have HH := Lib.hid (And.intro h1 (And.intro h2 hE))
    clear hright hpart h1 hE hr ha ht h2 hp hs1 hs2 hpe
    by_cases hn : 0 < np
    · go_enter Try.func29, Try.ntmps29
      go_upto_region 1 with fail
      generalize hwb : World.alloc w _ = wb at hx hb ⊢
      clear hwb
      have A := cells_at hb
      go_upto_region 4 with (go_at_call 63; refine (HH.out.1 _ hx).mono ?_; rintro e w1 ⟨rfl, hx1⟩)
      have A := cells_at (heap_ext hx1 hb)
      go_wp2_with (go_at_call 70; refine (HH.out.2.1 _ (hx.trans hx1)).mono ?_; rintro e w2 ⟨p, cap, rfl, _, hx2⟩)
      go_ret
      exact ⟨by rw [HH.out.2.2, if_pos hn]; rfl, (hx.trans hx1).trans hx2⟩
    · obtain rfl : np = 0 := by omega
      go_enter Try.func29, Try.ntmps29
      go_upto_region 1 with fail
      generalize hwb : World.alloc w _ = wb at hx hb ⊢
      clear hwb
      have A := cells_at hb
      go_upto_region 4 with (go_at_call 63; refine (HH.out.1 _ hx).mono ?_; rintro e w1 ⟨rfl, hx1⟩)
      have A := cells_at (heap_ext hx1 hb)
      go_wp2_with (go_at_call 70; refine (HH.out.2.1 _ (hx.trans hx1)).mono ?_; rintro e w2 ⟨p, cap, rfl, _, hx2⟩)
      go_ret
      exact ⟨by rw [HH.out.2.2]; rfl, (hx.trans hx1).trans hx2⟩

/-- a cell of a block of another element type, set -/
theorem own_set_other {w : World} {base : Nat} {e : TypeId} {size : Nat} {v : Value} {n : Nat} {xs : List Value} (h : w.ownsRow base e size v n xs) {b : Nat} {c : Array Value} {T : TypeId} {f : Nat × Nat} (hb : w.heap[b]? = some (.cells c T f)) (hT : T ≠ e) (i : Nat) (u : Value) :
    (w.setCell ⟨b, i, none⟩ u).ownsRow base e size v n xs := by
  obtain ⟨h1, h2 | ⟨g, cap, cur, e1, e2, hcur, r⟩⟩ := h
  · exact ⟨h1, .inl h2⟩
  · refine ⟨h1, .inr ⟨g, cap, cur, e1, e2, ?_, r⟩⟩
    rw [Below.heap_setCell _ _ _ _ (fun e => by subst e; rw [hb] at hcur; cases hcur; exact hT rfl)]
    exact hcur
/-- a block of two cells, both set -/
theorem set_two {w : World} {b : Nat} {c0 c1 : Value} {T : TypeId} (hb : w.heap[b]? = some (.cells #[c0, c1] T)) (u0 u1 : Value) {B : Nat} {w0 : World} (hB : B ≤ b) (hw : Below B w0 w) :
    ∃ w', w' = (w.setCell ⟨b, 0, none⟩ u0).setCell ⟨b, 1, none⟩ u1 ∧ w'.heap[b]? = some (.cells #[u0, u1] T) ∧ Below B w0 w' ∧
      ∀ {base : Nat} {e : TypeId} {size : Nat} {v : Value} {n : Nat} {xs : List Value}, T ≠ e → w.ownsRow base e size v n xs → w'.ownsRow base e size v n xs := by
  have h0 := heap_setCell_same w b 0 _ _ u0 hb
  exact ⟨_, rfl, heap_setCell_same _ b 1 _ _ u1 h0, (hw.setCell hB _).setCell hB _, fun hT h => own_set_other (own_set_other h hb hT 0 u0) h0 hT 1 u1⟩

theorem layerOf_any (va vb : Value) (a b : List Tr) (w : World) (ha : Reads encTr w va a) (hb : Reads encTr w vb b) (hsa : SetOk a) (hsb : SetOk b) :
    Calls Try.prog 72 #[va, vb] w fun e w' => ∃ x y, e = .returned (.agg #[x, y]) ∧ OwnSet w.heap.size w' x (lyOf a b).add ∧ OwnSet w.heap.size w' y (lyOf a b).take ∧ Ext w w' := by
  have h1 := fun W (h : Ext w W) => part_own vb va b a false W (hb.ext h) (ha.ext h) hsa.2.2 (Nat.le_trans hsb.1 (by decide)) (Nat.le_trans hsa.1 (by decide))
  have h2 := fun W (h : Ext w W) => part_own va vb a b false W (ha.ext h) (hb.ext h) hsb.2.2 (Nat.le_trans hsa.1 (by decide)) (Nat.le_trans hsb.1 (by decide))
  have hl1 : (lyOf a b).add = partL b a false := rfl
  have hl2 : (lyOf a b).take = partL a b false := rfl
  rw [hl1, hl2]
  clear hl1 hl2
  generalize partL b a false = L1 at h1 ⊢
  generalize partL a b false = L2 at h2 ⊢
  have HH := Lib.hid (And.intro h1 h2)
  have hx0 := (Ext.refl w).alloc (.cells #[.slice none 0 0, .slice none 0 0] 75)
  have hb0 := alloc_heap_new w (.cells #[.slice none 0 0, .slice none 0 0] 75)
  obtain ⟨aa, ca, rfl⟩ := ha.slice
  obtain ⟨ab, cb, rfl⟩ := hb.slice
  clear h1 h2 ha hb
  go_enter Try.func72, Try.ntmps72
  go_upto_region 1 with fail
  generalize hwb : World.alloc w _ = wb at hx0 hb0 ⊢
  clear hwb
  go_wp2_with (first | (go_at_call 70; with_reducible refine (HH.out.1 _ hx0).mono ?_; rintro e w1 ⟨p1, c1, rfl, ho1, hx1⟩) | (go_at_call 70; with_reducible refine (HH.out.2 _ (hx0.trans hx1)).mono ?_; rintro e w2 ⟨p2, c2, rfl, ho2, hx2⟩; have hc2 := heap_ext (hx1.trans hx2) hb0; have d0 := cells_at hc2 0; have d1 := cells_at hc2 1; have fz : ∀ i, w2.frozen? ⟨w.heap.size, i, none⟩ = false := fun i => by simp [World.frozen?, hc2]))
  obtain ⟨w3, hw3, hc3, hb3, hk3⟩ := set_two hc2 (.slice p1 L1.length c1) (.slice p2 L2.length c2) (Nat.le_refl _) (Below.trans hx0 (Below.mono (hx1.trans hx2) hx0.size))
  rw [← hw3]
  have A := cells_at hc3
  clear hw3 d0 d1 fz
  (try simp only [Exit.inBlock, Exit.then])
  refine bodyPost_ret (v := .agg #[.slice p1 L1.length c1, .slice p2 L2.length c2]) (results_cell rfl rfl ?_) rfl ?_
  · go_simp
  · exact ⟨_, _, rfl, hk3 (by decide) ((ho1.ext hx2).mono hx0.size), hk3 (by decide) (ho2.mono (Nat.le_trans hx0.size hx1.size)), hb3⟩
end Go.Proofs.Ytommohepbpdmdaa
