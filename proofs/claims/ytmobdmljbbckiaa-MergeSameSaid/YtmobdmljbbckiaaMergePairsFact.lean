/- merge.Pairs of the laws' many and of nothing. -/
import Derived.Test.YtmobdmljbbckiaaFuncsCk
import Derived.Test.YtmobdmljbbckiaaMergeSamePure
import Derived.Test.YtmobdmljbbckiaaMany
namespace Go.Proofs.Ytmobdmljbbckiaa
open Go.RowKit
set_option maxHeartbeats 1600000
set_option maxRecDepth 100000

def factCk : Ck := ⟨⟨1, ⟨#[115]⟩, noText⟩, ⟨1, ⟨#[112]⟩, noText⟩⟩
theorem many3_ok : rightErr [manyL 3, []] = none := by decide +kernel
theorem grp_fact : grp factCk (manyL 3) = manyL 3 := by decide +kernel
theorem many3_ck : ∀ t ∈ manyL 3, ckOf t = factCk := by decide +kernel

/-- what tells the pairs apart that are the same -/
theorem pairs1_any (k : Ck) (hk : CkKey k) {w0 : World} {B1 B2 c1 c2 : Nat} {b1 b2 : Nat} {l1 l2 : List Tr} {e1 e2 : List (Ck × Value)} (h1 : SideAt w0 B1 b1 l1 e1) (h2 : SideAt w0 B2 b2 l2 e2) (q1 : w0.cell? ⟨c1, 0, none⟩ = some (.map (some b1))) (q2 : w0.cell? ⟨c2, 0, none⟩ = some (.map (some b2))) (W : World) (hW : Ext w0 W) :
    Calls Try.prog 47 #[vCk k, .pointer (some ⟨c1, 0, none⟩), .pointer (some ⟨c2, 0, none⟩)] W fun e w' => e = .returned (.bool (decide (grp k l1 = grp k l2))) ∧ Ext W w' := by
  obtain ⟨p1, m1, lo, ro⟩ := h1.look k hk
  obtain ⟨p2, m2, lx, rx⟩ := h2.look k hk
  generalize grp k l1 = O at lo ro ⊢
  generalize grp k l2 = X at lx rx ⊢
  have d1 := hW.cell q1
  have d2 := hW.cell q2
  obtain ⟨⟨k1, s1, g1⟩, ⟨k2, s2, g2⟩⟩ := k
  dsimp only [vCk] at *
  have HL := Lib.hid (And.intro lo (And.intro lx (And.intro ro rx)))
  clear lo lx ro rx h1 h2 hk q1 q2
  go_enter Try.func47, Try.ntmps47
  go_upto_region 1 with fail
  have hxb := (Ext.refl W).alloc (.cells #[.int .i64 k1, .string s1, .string g1, .int .i64 k2, .string s2, .string g2] 54)
  have hba := alloc_heap_new W (.cells #[.int .i64 k1, .string s1, .string g1, .int .i64 k2, .string s2, .string g2] 54)
  generalize hwa : World.alloc W _ = wa at hxb hba ⊢
  clear hwa
  have D1 := Later.cell (hxb.cell d1)
  have D2 := Later.cell (hxb.cell d2)
  clear d1 d2
  have A := Later.cells hba
  have hxa := hW.trans hxb
  have h1 := fun (x : Later wa) => HL.out.1 x.wd (hxa.trans x.ext)
  have h2 := fun (x : Later wa) => HL.out.2.1 x.wd (hxa.trans x.ext)
  have HQ := Lib.hid (fun (x : Later wa) => equal_tr _ _ O X x.wd (HL.out.2.2.1.ext (hxa.trans x.ext)) (HL.out.2.2.2.ext (hxa.trans x.ext)))
  refine wp_region_ext [0, 1, 2, 3, 4, 5, 6, 7] [] (by kernel_rfl) (by kernel_rfl) ?_
  simp only [List.filterMap_cons, List.filterMap_nil, List.getElem?_cons_succ, List.getElem?_cons_zero]
  repeat (first | ((with_reducible refine wpFr_yes ?hw ?_); (case hw => rfl); intro K hK; go_simp; (first | (refine hK _ ?_; clear hK K) | (apply Exists.intro; refine ⟨fun x => ?_, hK _ ?_⟩; ((go_at_call 48; exact HQ.out x)); clear hK K))) | ((with_reducible refine wpFr_not ?hw ?_); (case hw => rfl); intro K hK; go_simp; (refine hK _ ?_; clear hK K)))
  refine wpFr_nil ?_
  refine wpTl_nil fun x1 hx1 => ?_
  clear A h1 h2 D1 D2
  go_wp2
  go_ret
  exact ⟨rfl, hxb.trans hx1⟩

theorem right_two (va vb : Value) (a b : List Tr) (w : World) (ha : Reads encTr w va a) (hb : Reads encTr w vb b) (r : Option Int) (hr : rightErr [a, b] = r) :
    Calls Try.prog 43 #[.slice (some ⟨w.heap.size, 0, none⟩) 2 2] (w.alloc (.cells #[va, vb] 22)) fun e w' => e = .returned (errV r) ∧ Ext w w' := by
  have h := right_any _ [a, b] _ (readsSets_new w [va, vb] [a, b] rfl (by simp) (fun j h h' => by
    match j, h with
    | 0, _ => exact ha
    | 1, _ => exact hb))
  rw [hr] at h
  exact h.mono fun e w' ⟨h1, h2⟩ => ⟨h1, ((Ext.refl w).alloc _).trans h2⟩
theorem fact_key : CkKey factCk := ⟨⟨rfl, by decide, by decide⟩, ⟨rfl, by decide, by decide⟩⟩
theorem own_one {w : World} {B g c : Nat} (h : w.ownsRow B 54 6 (.slice (some ⟨g, 0, none⟩) 1 c) 1 ([factCk].flatMap encCk)) : w.cell? ⟨g, 0 + 1, none⟩ = some (.string ⟨#[115]⟩) := by
  have := h.cellAt 1 (by omega)
  rw [Nat.zero_add, this]
  rfl
theorem pairs_fact (v : Value) (w : World) (hv : Reads encTr w v (manyL 3)) :
    Calls Try.prog 15 #[v, .slice none 0 0] w fun e w' => ∃ g c, e = .returned (.tuple #[.slice (some ⟨g, 0, none⟩) 1 c, .nilIface]) ∧ w'.cell? ⟨g, 0 + 1, none⟩ = some (.string ⟨#[115]⟩) ∧ Ext w w' := by
  have hright := fun W (hW : Ext w W) => right_two v (.slice none 0 0) (manyL 3) [] W (hv.ext hW) (OwnSet.nil 0 W).reads none many3_ok
  dsimp only [errV] at hright
  have c1 := fun W (hW : Ext w W) => mergeOf_any v (manyL 3) W (hv.ext hW) (fun t ht => by rw [many3_ck t ht]; exact fact_key) (by decide)
  have c2 := fun W => mergeOf_any (.slice none 0 0) [] W (OwnSet.nil 0 W).reads (fun t ht => by cases ht) (by decide)
  obtain ⟨pv, cv, rfl⟩ := hv.slice
  have HC := Lib.hid (And.intro hright (And.intro c1 c2))
  clear hright c1 c2 hv
  have hx0 := Ext.refl w
  go_enter Try.func15, Try.ntmps15
  go_upto_region 5 with (first | (go_at_call 43; refine (HC.out.1 _ hx0).mono ?_; rintro e w1 ⟨rfl, hx1⟩) | (go_at_call 44; with_reducible refine (HC.out.2.1 _ hx1).mono ?_; rintro e w2 ⟨b1, e1, rfl, hb1, hs1, hx2⟩; have H1 := Lib.hid (And.intro hb1 hs1); clear hb1 hs1) | (go_at_call 44; with_reducible refine (HC.out.2.2 _).mono ?_; rintro e w3 ⟨b2, e2, rfl, hb2, hs2, hx3⟩; have H2 := Lib.hid (And.intro hb2 hs2); clear hb2 hs2))
  have hxb := ((Ext.refl w3).alloc (.cells #[.map (some b1)] 100)).alloc (.cells #[.map (some b2)] 100)
  have q1 := heap_ext ((Ext.refl _).alloc (.cells #[.map (some b2)] 100)) (alloc_heap_new w3 (.cells #[.map (some b1)] 100))
  have q2 := alloc_heap_new (w3.alloc (.cells #[.map (some b1)] 100)) (.cells #[.map (some b2)] 100)
  rw [World.size_alloc] at q2
  generalize hwd : World.alloc (World.alloc w3 _) _ = wd at hxb q1 q2 ⊢
  clear hwd
  have d1 : wd.cell? ⟨w3.heap.size, 0, none⟩ = some (.map (some b1)) := cells_at q1 0
  have d2 : wd.cell? ⟨w3.heap.size + 1, 0, none⟩ = some (.map (some b2)) := cells_at q2 0
  have S1 := H1.out.2.ext (hx3.trans hxb)
  have S2 := H2.out.2.ext hxb
  have hp : Calls Try.prog 46 #[.slice (some ⟨wd.heap.size, 0, none⟩) 2 2] (wd.alloc (.cells #[.map (some b1), .map (some b2)] 100)) fun e w' => ∃ g c, e = .returned (.slice (some ⟨g, 0, none⟩) 1 c) ∧ w'.ownsRow wd.heap.size 54 6 (.slice (some ⟨g, 0, none⟩) 1 c) 1 ([factCk].flatMap encCk) ∧ Ext wd w' := by
    have := mergePairs_any _ [b1, b2] [e1, e2] _ (reads_maps wd [b1, b2] (by simp)) rfl (fun j h h' => by
      match j, h with
      | 0, _ => exact S1.map.ext ((Ext.refl wd).alloc _)
      | 1, _ => exact S2.map.ext ((Ext.refl wd).alloc _)) (fun es hes e he => by
      simp only [List.mem_cons, List.not_mem_nil, or_false] at hes
      rcases hes with rfl | rfl
      · exact sideKey S1 (fun t ht => by rw [many3_ck t ht]; exact fact_key) e he
      · exact sideKey S2 (fun t ht => by cases ht) e he) (by
      have l1 := sideLen S1
      have l2 := sideLen S2
      rw [manyL_len] at l1
      simp only [List.flatten_cons, List.flatten_nil, List.length_append, List.length_nil] at *
      omega)
    refine Calls.mono this fun e W' ⟨p, c, K, h1, h2, h3, h4⟩ => ?_
    have hK : K = [factCk] := by
      refine Rises.ext law_cmpCk h2.2 (List.pairwise_singleton ..) fun k => ?_
      rw [h2.1 k]
      have a1 : k ∈ e1.map (·.1) ↔ k = factCk := by
        rw [S1.keys k]
        constructor
        · rintro ⟨t, ht, rfl⟩; exact many3_ck t ht
        · rintro rfl; exact ⟨(manyL 3)[0]'(by decide), List.getElem_mem _, many3_ck _ (List.getElem_mem _)⟩
      have a2 : ¬ k ∈ e2.map (·.1) := fun h => by
        obtain ⟨t, ht, _⟩ := (S2.keys k).1 h
        cases ht
      rw [List.mem_singleton, ← a1]
      constructor
      · rintro ⟨es, hes, hk⟩
        simp only [List.mem_cons, List.not_mem_nil, or_false] at hes
        rcases hes with rfl | rfl
        · exact hk
        · exact absurd hk a2
      · exact fun h => ⟨e1, List.mem_cons_self .., h⟩
    subst hK
    obtain ⟨_, ⟨_, h⟩ | ⟨g, cap, cur, hv, _⟩⟩ := id h3
    · simp at h
    · have hpg : p = some ⟨g, 0, none⟩ := (Value.slice.inj hv).1
      subst hpg
      exact ⟨g, c, h1, own_mono h3 (by simp), ((Ext.refl wd).alloc _).trans h4⟩
  have hdel : ∀ W g c, W.ownsRow wd.heap.size 54 6 (.slice (some ⟨g, 0, none⟩) 1 c) 1 ([factCk].flatMap encCk) → Ext wd W → Calls Try.prog 45 #[.slice (some ⟨g, 0, none⟩) 1 c, .func (.func 47) #[] #[.pointer (some ⟨w3.heap.size, 0, none⟩), .pointer (some ⟨w3.heap.size + 1, 0, none⟩)]] W fun e w' => e = .returned (.slice (some ⟨g, 0, none⟩) 1 c) ∧ Ext W w' := fun W g c ho hx => by
    refine deleteFunc_ck_none _ [factCk] W W.heap.size _ _ (fun k => decide (grp k (manyL 3) = grp k [])) (Reads.of_owns ho) (Nat.le_refl _) ⟨enters_of Try.func47 (by kernel_rfl) rfl, fun V k hk hV => ?_⟩ (fun k hk => ?_)
    · have : k = factCk := by simpa using hk
      subst this
      exact pairs1_any factCk fact_key S1 S2 d1 d2 V (hx.trans hV)
    · have : k = factCk := by simpa using hk
      subst this
      rw [grp_fact]
      decide
  have HP := Lib.hid (And.intro hp hdel)
  have hx03 := (hx1.trans hx2).trans hx3
  clear hp hdel S1 S2 H1 H2 HC q1 q2
  go_wp2_with (first | (go_at_call 46; refine HP.out.1.mono ?_; rintro e w5 ⟨g, c, rfl, ho5, hx5⟩; have HO := Lib.hid ho5; clear ho5) | (go_at_call 45; refine (HP.out.2 _ _ _ HO.out hx5).mono ?_; rintro e w6 ⟨rfl, hx6⟩))
  go_ret2
  exact ⟨g, c, rfl, hx6.cell (own_one HO.out), ((hx03.trans hxb).trans hx5).trans hx6⟩
end Go.Proofs.Ytmobdmljbbckiaa
