/- merge.compare draws and lays new blocks, and nothing else. -/
import Derived.Test.YtmobdmljbbckiaaCompareG
import Derived.Test.YtmobdmljbbckiaaKeyCk
namespace Go.Proofs.Ytmobdmljbbckiaa
open Go.RowKit
set_option maxHeartbeats 1600000
set_option maxRecDepth 100000

theorem reads2 (W : World) (b : Nat) (x y : Int) (h0 : W.cell? ⟨b, 0, none⟩ = some (.int .i64 x)) (h1 : W.cell? ⟨b, 1, none⟩ = some (.int .i64 y)) :
    Reads encI W (.slice (some ⟨b, 0, none⟩) 2 2) [x, y] := by
  refine ⟨_, 2, rfl, by simp, by simp [maxLen], fun _ => ⟨b, 0, rfl, fun t u ht => ?_⟩⟩
  match t, ht with
  | 0, ht => simp [encI] at ht; subst ht; simpa using h0
  | 1, ht => simp [encI] at ht; subst ht; simpa using h1
  | t + 2, ht => simp [encI] at ht
theorem orI2 (x y : Int) : orI [x, y] = or2 x y := by
  unfold orI orI or2
  by_cases h : x = 0
  · simp [h]
    by_cases h2 : y = 0
    · simp [h2, orI]
    · simp [h2]
  · simp [h]
theorem law_cmpCk : LawCmp cmpCk := by
  have h := (law_cmpTm.lex law_cmpTm).comap (fun t : Ck => (t.s, t.p)) (fun a b e => by cases a; cases b; simp at e; simp [e])
  have e : (fun a b : Ck => or2 (cmpTm a.s b.s) (cmpTm a.p b.p)) = cmpCk := by funext a b; rw [cmpCk, orI2]
  rw [← e]; exact h
namespace G
/-- merge.compare -/
theorem ckCompare_any (a b : Ck) (w : World) : Calls Try.prog 86 #[vCk a, vCk b] w fun e w' => e = .returned (.int .i64 (cmpCk a b)) ∧ Grw w w' := by
  obtain ⟨⟨k1, s1, l1⟩, ⟨k2, s2, l2⟩⟩ := a
  obtain ⟨⟨k4, s4, l4⟩, ⟨k5, s5, l5⟩⟩ := b
  go_enter Try.func86, Try.ntmps86
  go_upto_region 1 with (fail)
  have h2 := alloc_heap_new (w.alloc (.cells #[.int .i64 k1, .string s1, .string l1, .int .i64 k2, .string s2, .string l2] 54))
    (.cells #[.int .i64 k4, .string s4, .string l4, .int .i64 k5, .string s5, .string l5] 54)
  have h1 := alloc_heap_old (w.alloc (.cells #[.int .i64 k1, .string s1, .string l1, .int .i64 k2, .string s2, .string l2] 54))
    (.cells #[.int .i64 k4, .string s4, .string l4, .int .i64 k5, .string s5, .string l5] 54) _ _ (alloc_heap_new w _)
  have hx := ((Grw.refl w).alloc (.cells #[.int .i64 k1, .string s1, .string l1, .int .i64 k2, .string s2, .string l2] 54)).alloc
    (.cells #[.int .i64 k4, .string s4, .string l4, .int .i64 k5, .string s5, .string l5] 54)
  rw [World.size_alloc] at h2
  generalize World.alloc (World.alloc w _) _ = wb at h1 h2 hx ⊢
  have A := Later.cells h1
  have B := Later.cells h2
  clear h1 h2
  refine wp_region_ext [0, 1, 2, 3, 4, 5, 6, 7, 8, 9] [10, 11, 12] (by kernel_rfl) (by kernel_rfl) ?_
  simp only [List.filterMap_cons, List.filterMap_nil, List.getElem?_cons_succ, List.getElem?_cons_zero]
  repeat (first | ((with_reducible refine wpFr_yes ?hw ?_); (case hw => rfl); intro K hK; go_simp; (first | (refine hK _ ?_; clear hK K) | (apply Exists.intro; refine ⟨fun x => ?_, hK _ ?_⟩; ((first | (go_at_call 14; exact termCompare_any ⟨_, _, _⟩ ⟨_, _, _⟩ _))); clear hK K))) | ((with_reducible refine wpFr_not ?hw ?_); (case hw => rfl); intro K hK; go_simp; (refine hK _ ?_; clear hK K)))
  refine wpFr_nil ?_
  refine wpTl_step (fun W1 K hx1 hK => ?_)
  go_simp
  refine ⟨hx1.alloc _, hK _ _ ?_⟩
  clear hK K
  refine wpTl_step (fun W2 K hx2 hK => ?_)
  go_simp
  refine (cmpOr_int _ [cmpTm ⟨k1, s1, l1⟩ ⟨k4, s4, l4⟩, cmpTm ⟨k2, s2, l2⟩ ⟨k5, s5, l5⟩] W2 (reads2 _ _ _ _ (hx2.cell (by go_simp)) (hx2.cell (by go_simp)))).mono ?_
  rintro e w3 ⟨rfl, rfl⟩
  refine ⟨_, rfl, (hx1.alloc _).trans hx2, hK _ _ ?_⟩
  clear hK K
  refine wpTl_step (fun W3 K hx3 hK => ?_)
  go_simp
  refine ⟨((hx1.alloc _).trans hx2).trans hx3, hK _ _ ?_⟩
  clear hK K
  refine wpTl_nil fun x hx4 => ?_
  go_wp2
  go_ret
  exact ⟨rfl, (((hx.trans hx1).alloc _).trans (hx2.trans hx3)).trans hx4⟩
end G
end Go.Proofs.Ytmobdmljbbckiaa
