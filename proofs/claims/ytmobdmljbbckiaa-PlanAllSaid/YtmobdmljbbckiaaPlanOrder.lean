/- plan.Order. -/
import Derived.Test.YtmobdmljbbckiaaPlanCmp
import Derived.Test.YtmobdmljbbckiaaPlanMin
import Derived.Test.YtmobdmljbbckiaaFuncsIntG
import Derived.Test.YtmobdmljbbckiaaAskCheck
import Derived.Test.YtmobdmljbbckiaaSideAt
namespace Go.Proofs.Ytmobdmljbbckiaa
open Go.RowKit Go.Maps
set_option maxHeartbeats 3200000
set_option maxRecDepth 100000

theorem own_apartI {w : World} {B B' : Nat} {u v : Value} {a b : Int} {l m : List Int} (hu : w.ownsRow B 3 1 u (a :: l).length ((a :: l).flatMap encI)) (hv : w.ownsRow B' 3 1 v (b :: m).length ((b :: m).flatMap encI)) (hne : a ≠ b) : u.ownBlock ≠ v.ownBlock := by
  intro e
  obtain ⟨_, ⟨_, h⟩ | ⟨g, cap, cur, rfl, _, hc, _, _, _, ht⟩⟩ := hu
  · simp at h
  obtain ⟨_, ⟨_, h⟩ | ⟨g', cap', cur', rfl, _, hc', _, _, _, ht'⟩⟩ := hv
  · simp at h
  have hg : g = g' := by simpa [Value.ownBlock] using e
  subst hg
  rw [hc] at hc'
  cases hc'
  have h1 : some (Value.int .i64 a) = cur.toList[0]? := by
    have := congrArg (fun t : List Value => t[0]?) ht
    rw [List.getElem?_take, if_pos (by simp)] at this
    rw [this]; rfl
  have h2 : some (Value.int .i64 b) = cur.toList[0]? := by
    have := congrArg (fun t : List Value => t[0]?) ht'
    rw [List.getElem?_take, if_pos (by simp)] at this
    rw [this]; rfl
  have h3 := h1.trans h2.symm
  simp at h3
  exact hne h3
/-- a part's variables are short -/
theorem patErr_short {p : Pat} (h : patErr p = none) : p.s.var.size ≤ 10 ∧ p.p.var.size ≤ 10 ∧ p.o.var.size ≤ 10 := by
  have hs : ∀ s : Slot, slotErr s = none → s.var.size ≤ 10 := fun s hs => by
    unfold slotErr at hs
    split at hs
    · omega
    · split at hs
      · rename_i h1
        unfold isWord at h1
        simp only [Bool.and_eq_true, decide_eq_true_eq] at h1
        exact h1.1
      · cases hs
  unfold patErr at h
  have hall : ∀ i, i < 3 → slotErr (p.nth i) = none := fun i hi => by
    cases hq : slotErr (p.nth i) with
    | none => rfl
    | some n =>
      exfalso
      have hmin : ∃ k, k < 3 ∧ (∃ m, slotErr (p.nth k) = some m) ∧ ∀ j, j < k → slotErr (p.nth j) = none := by
        by_cases h0 : slotErr (p.nth 0) = none
        · by_cases h1 : slotErr (p.nth 1) = none
          · have hi2 : i = 2 := by
              rcases (by omega : i = 0 ∨ i = 1 ∨ i = 2) with rfl | rfl | rfl
              · rw [h0] at hq; cases hq
              · rw [h1] at hq; cases hq
              · rfl
            subst hi2
            exact ⟨2, by omega, ⟨n, hq⟩, fun j hj => by
              rcases (by omega : j = 0 ∨ j = 1) with rfl | rfl
              · exact h0
              · exact h1⟩
          · exact ⟨1, by omega, Option.ne_none_iff_exists'.1 h1, fun j hj => by
              have : j = 0 := by omega
              subst this; exact h0⟩
        · exact ⟨0, by omega, Option.ne_none_iff_exists'.1 h0, fun j hj => absurd hj (Nat.not_lt_zero _)⟩
      obtain ⟨k, hk, ⟨m, hm⟩, hb⟩ := hmin
      rw [firstErr_hit hm hb hk] at h
      cases h
  exact ⟨hs _ (hall 0 (by omega)), hs _ (hall 1 (by omega)), hs _ (hall 2 (by omega))⟩
theorem partsErr_all {ps : List Pat} (h : partsErr ps = none) : ∀ p ∈ ps, patErr p = none := by
  intro p hp
  obtain ⟨i, hi, rfl⟩ := List.getElem_of_mem hp
  have : ∀ n, firstErr (fun i => patErr (ps.getD i default)) n = none → ∀ j, j < n → patErr (ps.getD j default) = none := by
    intro n
    induction n with
    | zero => intro _ j hj; exact absurd hj (Nat.not_lt_zero _)
    | succ n ih =>
      intro h j hj
      rw [firstErr] at h
      cases hq : firstErr (fun i => patErr (ps.getD i default)) n with
      | some m => rw [hq] at h; cases h
      | none =>
        rw [hq] at h
        by_cases e : j = n
        · subst e; exact h
        · exact ih hq j (by omega)
  have h2 := this ps.length h i hi
  rwa [getD_at hi] at h2
theorem askErr_none {q : Qu} (h : askErr q = none) : q.parts.length ≤ 6 ∧ q.parts.length ≠ 0 ∧ partsErr q.parts = none := by
  unfold askErr at h
  by_cases h1 : 6 < q.parts.length
  · rw [if_pos h1] at h; cases h
  · rw [if_neg h1] at h
    by_cases h2 : q.parts.length = 0
    · rw [if_pos h2] at h; cases h
    · rw [if_neg h2] at h
      refine ⟨by omega, h2, ?_⟩
      cases h3 : partsErr q.parts with
      | none => rfl
      | some n => rw [h3] at h; cases h

/-- a variable more that is known -/
theorem know_put {w : World} {b : Nat} {K : List ByteArray} (h : MapAt Try.prog 9 w b (boolsS K)) (v : ByteArray) (hv : v.size ≤ maxLen) :
    ∃ w', (Instr.mapUpdate 71 (.map (some b)) (.string v) (.bool (decide (v.size ≠ 0)))).run Try.prog w = .ok () w' ∧ MapAt Try.prog 9 w' b (boolsS (addK K v)) ∧ TurnedAt b w w' := by
  unfold addK
  cases hin : memS K v with
  | true =>
    rw [if_pos rfl]
    exact h.put_same (t := 71) Try.underlying71 keysS (keyS hv) (List.mem_map.2 ⟨v, (memS_iff K v).1 hin, rfl⟩)
  | false =>
    rw [if_neg (by decide)]
    obtain ⟨w', h1, h2, h3⟩ := h.put_miss (t := 71) Try.underlying71 keysS (keyS hv) (fun x hx e => by
      obtain ⟨u, hu, rfl⟩ := List.mem_map.1 hx
      have e2 : u = v := by injection e
      subst e2
      rw [(memS_iff K u).2 hu] at hin
      cases hin) (value := .bool (decide (v.size ≠ 0)))
    exact ⟨w', h1, by simpa [boolsS] using h2, h3⟩

theorem planOrder_bad (vset vv vp : Value) (set : List Tr) (q : Qu) (w : World) (hs : Reads encTr w vset set) (hp : Reads encPat w vp q.parts) (hv : Reads encS w vv q.vars) (n : Int) (hn : (setErr set).or (askErr q) = some n) :
    Calls Try.prog 8 #[vset, vQu vv vp q] w fun e w' => e = .returned (.tuple #[.slice none 0 0, eV n]) ∧ Ext w w' := by
  have h1 := fun W (hW : Ext w W) => sorted_any vset set W (hs.ext hW)
  have h2 := fun W (hW : Ext w W) => askCheck_any vv vp q W (hp.ext hW) (hv.ext hW)
  obtain ⟨a0, cs, rfl⟩ := hs.slice
  obtain ⟨av, cv, rfl⟩ := hv.slice
  obtain ⟨ap, cp, rfl⟩ := hp.slice
  have hxb := ((Ext.refl w).alloc (.cells #[.slice a0 set.length cs] 22)).alloc (.cells #[.slice av q.vars.length cv, .slice ap q.parts.length cp, .string q.order, .bool q.down, .bool q.dist, .int .i64 q.limit] 26)
  have hb1 := heap_ext ((Ext.refl _).alloc (.cells #[.slice av q.vars.length cv, .slice ap q.parts.length cp, .string q.order, .bool q.down, .bool q.dist, .int .i64 q.limit] 26)) (alloc_heap_new w (.cells #[.slice a0 set.length cs] 22))
  have hb2 := alloc_heap_new (w.alloc (.cells #[.slice a0 set.length cs] 22)) (.cells #[.slice av q.vars.length cv, .slice ap q.parts.length cp, .string q.order, .bool q.down, .bool q.dist, .int .i64 q.limit] 26)
  rw [World.size_alloc] at hb2
  cases hE : setErr set with
  | some m =>
    rw [hE] at hn h1
    obtain rfl : m = n := by simpa using hn
    dsimp only [errV] at h1
    obtain ⟨vars, parts, order, down, dist, limit⟩ := q
    dsimp only at *
    have HH := Lib.hid h1
    clear h1 h2 hs hp hv hn hE
    go_enter Try.func8, Try.ntmps8
    go_upto_region 1 with fail
    generalize hwa : World.alloc (World.alloc w _) _ = wa at hxb hb1 hb2 ⊢
    have A1 := cells_at hb1
    have A2 := cells_at hb2
    clear hwa
    go_wp2_with (go_at_call 17; refine (HH.out _ hxb).mono ?_; rintro e w1 ⟨rfl, hx1⟩)
    go_ret2
    exact ⟨rfl, hxb.trans hx1⟩
  | none =>
    rw [hE] at hn h1
    have hn' : askErr q = some n := by simpa using hn
    rw [hn'] at h2
    dsimp only [errV] at h1 h2
    obtain ⟨vars, parts, order, down, dist, limit⟩ := q
    dsimp only at *
    have HH := Lib.hid (And.intro h1 h2)
    clear h1 h2 hs hp hv hn hE hn'
    go_enter Try.func8, Try.ntmps8
    go_upto_region 1 with fail
    generalize hwa : World.alloc (World.alloc w _) _ = wa at hxb hb1 hb2 ⊢
    have A0 := fun W (hW : Ext wa W) => cells_at (heap_ext hW hb2)
    have A1 := cells_at hb1
    clear hwa
    go_wp2_with (first | (go_at_call 17; refine (HH.out.1 _ hxb).mono ?_; rintro e w1 ⟨rfl, hx1⟩; have A2 := A0 _ hx1) | (go_at_call 23; refine (HH.out.2 _ (hxb.trans hx1)).mono ?_; rintro e w2 ⟨rfl, hx2⟩))
    go_ret2
    exact ⟨rfl, (hxb.trans hx1).trans hx2⟩
end Go.Proofs.Ytmobdmljbbckiaa
