/- term.Compare, triple.Compare draw and lay new blocks, and nothing else. -/
import Derived.Test.YtmobdmljbbckiaaRegionG
import Derived.Test.YtmobdmljbbckiaaTermWalks
namespace Go.Proofs.Ytmobdmljbbckiaa.G
open Go.RowKit Go.Proofs.Ytmobdmljbbckiaa
set_option maxHeartbeats 1600000
set_option maxRecDepth 100000

/-- term.Compare -/
theorem termCompare_any (a b : Tm) (w : World) : Calls Try.prog 14 #[vTm a, vTm b] w fun e w' => e = .returned (.int .i64 (cmpTm a b)) ∧ Grw w w' := by
  obtain ⟨ka, sa, la⟩ := a
  obtain ⟨kb, sb, lb⟩ := b
  go_enter Try.func14, Try.ntmps14
  go_upto_region 1 with (fail)
  have a0 : ((w.alloc (.cells #[.int .i64 ka, .string sa, .string la] 28)).alloc (.cells #[.int .i64 kb, .string sb, .string lb] 28)).cell? ⟨w.heap.size, 0, none⟩ = some (.int .i64 ka) := by go_simp
  have a1 : ((w.alloc (.cells #[.int .i64 ka, .string sa, .string la] 28)).alloc (.cells #[.int .i64 kb, .string sb, .string lb] 28)).cell? ⟨w.heap.size, 1, none⟩ = some (.string sa) := by go_simp
  have a2 : ((w.alloc (.cells #[.int .i64 ka, .string sa, .string la] 28)).alloc (.cells #[.int .i64 kb, .string sb, .string lb] 28)).cell? ⟨w.heap.size, 2, none⟩ = some (.string la) := by go_simp
  have b0 : ((w.alloc (.cells #[.int .i64 ka, .string sa, .string la] 28)).alloc (.cells #[.int .i64 kb, .string sb, .string lb] 28)).cell? ⟨w.heap.size + 1, 0, none⟩ = some (.int .i64 kb) := by go_simp
  have b1 : ((w.alloc (.cells #[.int .i64 ka, .string sa, .string la] 28)).alloc (.cells #[.int .i64 kb, .string sb, .string lb] 28)).cell? ⟨w.heap.size + 1, 1, none⟩ = some (.string sb) := by go_simp
  have b2 : ((w.alloc (.cells #[.int .i64 ka, .string sa, .string la] 28)).alloc (.cells #[.int .i64 kb, .string sb, .string lb] 28)).cell? ⟨w.heap.size + 1, 2, none⟩ = some (.string lb) := by go_simp
  have hx : Grw w ((w.alloc (.cells #[.int .i64 ka, .string sa, .string la] 28)).alloc (.cells #[.int .i64 kb, .string sb, .string lb] 28)) := ((Grw.refl w).alloc _).alloc _
  generalize hwb : World.alloc (World.alloc w _) _ = wb at a0 a1 a2 b0 b1 b2 hx ⊢
  clear hwb
  have A0 := Later.cell a0
  have A1 := Later.cell a1
  have A2 := Later.cell a2
  have B0 := Later.cell b0
  have B1 := Later.cell b1
  have B2 := Later.cell b2
  clear a0 a1 a2 b0 b1 b2
  refine wp_region_ext [0, 1, 2, 3, 4, 5, 6, 7, 8, 9, 10, 11, 12, 13, 14] [15, 16, 17] (by kernel_rfl) (by kernel_rfl) ?_
  simp only [List.filterMap_cons, List.filterMap_nil, List.getElem?_cons_succ, List.getElem?_cons_zero]
  repeat (first | ((with_reducible refine wpFr_yes ?hw ?_); (case hw => rfl); intro K hK; go_simp; (first | (refine hK _ ?_; clear hK K) | (apply Exists.intro; refine ⟨fun x => ?_, hK _ ?_⟩; ((first | (go_at_call 27; exact (cmpCompare_int _ _ _).mono fun e w' ⟨h1, h2⟩ => ⟨h1, h2 ▸ Grw.refl _⟩) | (go_at_call 42; exact (stringsCompare_any _ _ _).mono fun e w' ⟨h1, h2⟩ => ⟨h1, h2 ▸ Grw.refl _⟩))); clear hK K))) | ((with_reducible refine wpFr_not ?hw ?_); (case hw => rfl); intro K hK; go_simp; (refine hK _ ?_; clear hK K)))
  refine wpFr_nil ?_
  refine wpTl_step (fun W1 K hx1 hK => ?_)
  go_simp
  refine ⟨hx1.alloc _, hK _ _ ?_⟩
  clear hK K
  refine wpTl_step (fun W2 K hx2 hK => ?_)
  go_simp
  refine (cmpOr_int _ [cmpI ka kb, cmpS sa sb, cmpS la lb] W2 (reads3 _ _ _ _ _ (hx2.cell (by go_simp)) (hx2.cell (by go_simp)) (hx2.cell (by go_simp)))).mono ?_
  rintro e w3 ⟨rfl, rfl⟩
  refine ⟨_, rfl, (hx1.alloc _).trans hx2, hK _ _ ?_⟩
  clear hK K
  refine wpTl_step (fun W3 K hx3 hK => ?_)
  go_simp
  refine ⟨((hx1.alloc _).trans hx2).trans hx3, hK _ _ ?_⟩
  clear hK K
  refine wpTl_nil fun x hx4 => ?_
  go_wp2
  go_ret
  exact ⟨rfl, (((hx.trans hx1).alloc _).trans (hx2.trans hx3)).trans hx4⟩


/-- triple.Compare -/
theorem tripleCompare_any (a b : Tr) (w : World) : Calls Try.prog 51 #[vTr a, vTr b] w fun e w' => e = .returned (.int .i64 (cmpTr a b)) ∧ Grw w w' := by
  obtain ⟨⟨k1, s1, l1⟩, ⟨k2, s2, l2⟩, ⟨k3, s3, l3⟩⟩ := a
  obtain ⟨⟨k4, s4, l4⟩, ⟨k5, s5, l5⟩, ⟨k6, s6, l6⟩⟩ := b
  go_enter Try.func51, Try.ntmps51
  go_upto_region 1 with (fail)
  have h2 := alloc_heap_new (w.alloc (.cells #[.int .i64 k1, .string s1, .string l1, .int .i64 k2, .string s2, .string l2, .int .i64 k3, .string s3, .string l3] 82))
    (.cells #[.int .i64 k4, .string s4, .string l4, .int .i64 k5, .string s5, .string l5, .int .i64 k6, .string s6, .string l6] 82)
  have h1 := alloc_heap_old (w.alloc (.cells #[.int .i64 k1, .string s1, .string l1, .int .i64 k2, .string s2, .string l2, .int .i64 k3, .string s3, .string l3] 82))
    (.cells #[.int .i64 k4, .string s4, .string l4, .int .i64 k5, .string s5, .string l5, .int .i64 k6, .string s6, .string l6] 82) _ _ (alloc_heap_new w _)
  have hx := ((Grw.refl w).alloc (.cells #[.int .i64 k1, .string s1, .string l1, .int .i64 k2, .string s2, .string l2, .int .i64 k3, .string s3, .string l3] 82)).alloc
    (.cells #[.int .i64 k4, .string s4, .string l4, .int .i64 k5, .string s5, .string l5, .int .i64 k6, .string s6, .string l6] 82)
  rw [World.size_alloc] at h2
  generalize World.alloc (World.alloc w _) _ = wb at h1 h2 hx ⊢
  have A := Later.cells h1
  have B := Later.cells h2
  clear h1 h2
  refine wp_region_ext [0, 1, 2, 3, 4, 5, 6, 7, 8, 9, 10, 11, 12, 13, 14] [15, 16, 17] (by kernel_rfl) (by kernel_rfl) ?_
  simp only [List.filterMap_cons, List.filterMap_nil, List.getElem?_cons_succ, List.getElem?_cons_zero]
  repeat (first | ((with_reducible refine wpFr_yes ?hw ?_); (case hw => rfl); intro K hK; go_simp; (first | (refine hK _ ?_; clear hK K) | (apply Exists.intro; refine ⟨fun x => ?_, hK _ ?_⟩; ((first | (go_at_call 14; exact termCompare_any ⟨_, _, _⟩ ⟨_, _, _⟩ _))); clear hK K))) | ((with_reducible refine wpFr_not ?hw ?_); (case hw => rfl); intro K hK; go_simp; (refine hK _ ?_; clear hK K)))
  refine wpFr_nil ?_
  refine wpTl_step (fun W1 K hx1 hK => ?_)
  go_simp
  refine ⟨hx1.alloc _, hK _ _ ?_⟩
  clear hK K
  refine wpTl_step (fun W2 K hx2 hK => ?_)
  go_simp
  refine (cmpOr_int _ [cmpTm ⟨k1, s1, l1⟩ ⟨k4, s4, l4⟩, cmpTm ⟨k2, s2, l2⟩ ⟨k5, s5, l5⟩, cmpTm ⟨k3, s3, l3⟩ ⟨k6, s6, l6⟩] W2 (reads3 _ _ _ _ _ (hx2.cell (by go_simp)) (hx2.cell (by go_simp)) (hx2.cell (by go_simp)))).mono ?_
  rintro e w3 ⟨rfl, rfl⟩
  refine ⟨_, rfl, (hx1.alloc _).trans hx2, hK _ _ ?_⟩
  clear hK K
  refine wpTl_step (fun W3 K hx3 hK => ?_)
  go_simp
  refine ⟨((hx1.alloc _).trans hx2).trans hx3, hK _ _ ?_⟩
  clear hK K
  refine wpTl_nil fun x hx4 => ?_
  go_wp2
  go_ret
  exact ⟨rfl, (((hx.trans hx1).alloc _).trans (hx2.trans hx3)).trans hx4⟩

end Go.Proofs.Ytmobdmljbbckiaa.G
