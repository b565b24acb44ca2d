/- merge.of: the triples of each pair. -/
import Derived.Test.YtmobdmljbbckiaaSideAt
import Derived.Test.YtmobdmljbbckiaaSetRight
namespace Go.Proofs.Ytmobdmljbbckiaa
open Go.RowKit Go.Maps
set_option maxHeartbeats 3200000
set_option maxRecDepth 100000

theorem cellsOf_new9 (W : World) (t : Tr) : ∀ (j : Nat) (u : Value), (encTr t)[j]? = some u → (W.alloc (.cells #[.int .i64 t.s.kind, .string t.s.s, .string t.s.lang, .int .i64 t.p.kind, .string t.p.s, .string t.p.lang, .int .i64 t.o.kind, .string t.o.s, .string t.o.lang] 82)).cell? ((⟨W.heap.size, 0, none⟩ : Addr).add j) = some u :=
  fun j u hj => cells_new W #[.int .i64 t.s.kind, .string t.s.s, .string t.s.lang, .int .i64 t.p.kind, .string t.p.s, .string t.p.lang, .int .i64 t.o.kind, .string t.o.s, .string t.o.lang] 82 W.heap.size rfl j u hj
theorem one9 (t : Tr) : ∀ u ∈ encTr t, u.oneCell' = true := fun u hu => encTr_one [t] u (by simpa using hu)

theorem mergeOf_any (v : Value) (l : List Tr) (w : World) (hl : Reads encTr w v l) (hk : ∀ t ∈ l, CkKey (ckOf t)) (hn : l.length ≤ 1000) :
    Calls Try.prog 44 #[v] w fun e w' => ∃ b es, e = .returned (.map (some b)) ∧ w.heap.size ≤ b ∧ SideAt w' w.heap.size b l es ∧ Ext w w' := by
  obtain ⟨i0, z, hi, hz0, hz1, hz2, hz3⟩ := infoTr
  have hmm := @run_makeMap Try.prog
  obtain ⟨a, cap, rfl, hcap, hmax, hcells⟩ := hl
  unfold maxLen at hmax
  have HK := Lib.hid (And.intro hk (And.intro hi (And.intro hz0 (And.intro hz1 (And.intro hz2 hz3)))))
  clear hk hi hz0 hz1 hz2 hz3
  go_enter Try.func44, Try.ntmps44
  go_wp2
  have hm0 : SideAt (w.alloc (.map #[] 0)) w.heap.size w.heap.size (l.take 0) [] := ⟨MapAt.made _ _ w, fun k => by simp, fun e he => by cases he⟩
  have hxm := (Ext.refl w).alloc (.map #[] 0)
  generalize hwm : w.alloc (.map #[] 0) = wm at hm0 hxm ⊢
  obtain ⟨mb, hmb⟩ : ∃ mb, mb = w.heap.size := ⟨_, rfl⟩
  have hm1 : SideAt wm w.heap.size mb (l.take 0) [] := by rw [hmb]; exact hm0
  rw [← hmb]
  have HB := Lib.hid hmb
  clear hwm hmb hm0
  go_loopw [10] (fun jv wr => ∃ j : Nat, jv = .int .i64 j ∧ j ≤ l.length ∧ (∃ es, SideAt wr w.heap.size mb (l.take j) es) ∧ Ext w wr) (fun jv _ => l.length - (intOf jv).toNat)
  case atStart => exact ⟨0, rfl, Nat.zero_le _, ⟨_, hm1⟩, hxm⟩
  case round =>
    obtain ⟨j, rfl, hj, ⟨es, hS⟩, hx⟩ := hrel
    clear hm1 hxm
    by_cases hlt : j < l.length
    · obtain ⟨b, off, rfl, hc⟩ := hcells (fun h => by rw [h] at hlt; exact absurd hlt (Nat.not_lt_zero _))
      obtain ⟨c0, c1, c2, c3, c4, c5, c6, c7, c8⟩ := Tr.cells hc hlt
      have d0 := hx.cell c0
      have d1 := hx.cell c1
      have d2 := hx.cell c2
      have d3 := hx.cell c3
      have d4 := hx.cell c4
      have d5 := hx.cell c5
      have d6 := hx.cell c6
      have d7 := hx.cell c7
      have d8 := hx.cell c8
      have hkey := HK.out.1 l[j] (List.getElem_mem hlt)
      have hst : l.take (j + 1) = l.take j ++ [l[j]] := List.take_succ_eq_append_getElem hlt
      have hlen : (l.take j).length ≤ 1000 := by rw [List.length_take]; omega
      have HS := Lib.hid (And.intro hst hkey)
      clear c0 c1 c2 c3 c4 c5 c6 c7 c8 hc hcells hst hkey
      generalize l[j] = t at d0 d1 d2 d3 d4 d5 d6 d7 d8 HS
      generalize l.take j = L at hS HS hlen
      have hglen := grp_len (ckOf t) L
      obtain ⟨⟨k1, s1, l1⟩, ⟨k2, s2, l2⟩, ⟨k3, s3, l3⟩⟩ := t
      dsimp only at *
      have HM := Lib.hid (And.intro hS hglen)
      clear hS hglen
      go_upto_region 6 with fail
      have hxa := (hx.alloc (.cells #[.int .i64 k1, .string s1, .string l1, .int .i64 k2, .string s2, .string l2, .int .i64 k3, .string s3, .string l3] 82)).alloc (.cells #[.int .i64 k1, .string s1, .string l1, .int .i64 k2, .string s2, .string l2] 54)
      have hxb := ((Ext.refl wr).alloc (.cells #[.int .i64 k1, .string s1, .string l1, .int .i64 k2, .string s2, .string l2, .int .i64 k3, .string s3, .string l3] 82)).alloc (.cells #[.int .i64 k1, .string s1, .string l1, .int .i64 k2, .string s2, .string l2] 54)
      have hba := heap_ext ((Ext.refl _).alloc (.cells #[.int .i64 k1, .string s1, .string l1, .int .i64 k2, .string s2, .string l2] 54)) (alloc_heap_new wr (.cells #[.int .i64 k1, .string s1, .string l1, .int .i64 k2, .string s2, .string l2, .int .i64 k3, .string s3, .string l3] 82))
      have hbc := alloc_heap_new (wr.alloc (.cells #[.int .i64 k1, .string s1, .string l1, .int .i64 k2, .string s2, .string l2, .int .i64 k3, .string s3, .string l3] 82)) (.cells #[.int .i64 k1, .string s1, .string l1, .int .i64 k2, .string s2, .string l2] 54)
      rw [World.size_alloc] at hbc
      generalize hwa : World.alloc (World.alloc wr _) _ = wa at hxa hxb hba hbc ⊢
      have A := cells_at hba
      have A2 := cells_at hbc
      clear hwa d0 d1 d2 d3 d4 d5 d6 d7 d8 hba hbc
      have hxW := hxa.alloc (.cells #[.int .i64 k1, .string s1, .string l1, .int .i64 k2, .string s2, .string l2, .int .i64 k3, .string s3, .string l3] 82)
      have hSW := HM.out.1.ext (hxb.alloc (.cells #[.int .i64 k1, .string s1, .string l1, .int .i64 k2, .string s2, .string l2, .int .i64 k3, .string s3, .string l3] 82))
      have hnew := cellsOf_new9 wa ⟨⟨k1, s1, l1⟩, ⟨k2, s2, l2⟩, ⟨k3, s3, l3⟩⟩
      dsimp only at hnew
      obtain ⟨kl, hkl⟩ := keyCk HS.out.2
      by_cases hin : ckOf ⟨⟨k1, s1, l1⟩, ⟨k2, s2, l2⟩, ⟨k3, s3, l3⟩⟩ ∈ es.map (·.1)
      · obtain ⟨e, he, hek⟩ := List.mem_map.1 hin
        obtain ⟨ek, ev⟩ := e
        dsimp only at hek
        subst hek
        obtain ⟨w2, stamp, hrun2, hent, ht2⟩ := hSW.map.entry_hit (t := 100) Try.underlying100 keysCk hkl (v := ev) (List.mem_map.2 ⟨_, he, rfl⟩)
        have hown2 : ∀ e ∈ es, OwnSet w.heap.size w2 e.2 (grp e.1 L) := fun e' he' => own_turned (hSW.own e' he') ht2 hSW.map.isMap
        have hb2 := ht2.below (B := w.heap.size) (by rw [HB.out]; exact Nat.le_refl _) hxW
        have hnew2 : ∀ (i : Nat) (u : Value), (encTr ⟨⟨k1, s1, l1⟩, ⟨k2, s2, l2⟩, ⟨k3, s3, l3⟩⟩)[i]? = some u → w2.cell? ((⟨wa.heap.size, 0, none⟩ : Addr).add i) = some u := fun i u hu => by
          rw [← hnew i u hu, Go.WideShapes.add_plain]
          refine World.cell?_of_block (ht2.other wa.heap.size fun e => ?_)
          have := HM.out.1.map.lt
          have := hxb.size
          omega
        have hrow : OwnSet w.heap.size w2 ev (grp (ckOf ⟨⟨k1, s1, l1⟩, ⟨k2, s2, l2⟩, ⟨k3, s3, l3⟩⟩) L) := hown2 _ he
        have hgl := HM.out.2
        generalize hG : grp (ckOf ⟨⟨k1, s1, l1⟩, ⟨k2, s2, l2⟩, ⟨k3, s3, l3⟩⟩) L = G at hrow hgl
        dsimp only [vCk, ckOf] at hrun2
        have HF := Lib.hid (And.intro hown2 (And.intro hent (And.intro he (And.intro hSW (And.intro hnew2 hG)))))
        clear hown2 hent he hSW hnew2 hG hnew ht2 hin hkl
        have HI := Lib.hid (And.intro hrow (And.intro hgl hb2))
        clear hrow hgl hb2
        go_wp2_with (at_builtin; refine wpList_append_own _ rfl _ _ 22 rfl w.heap.size 82 i0 z 9 120 Try.underlying22 HK.out.2.1 HK.out.2.2.1 HK.out.2.2.2.1 HK.out.2.2.2.2.1 HK.out.2.2.2.2.2 (by decide) _ _ _ rfl HI.out.1 ⟨wa.heap.size, 0, none⟩ 1 1 (encTr ⟨⟨k1, s1, l1⟩, ⟨k2, s2, l2⟩, ⟨k3, s3, l3⟩⟩) rfl rfl HF.out.2.2.2.2.1 (one9 _) (by have := HI.out.2.1; unfold maxLen; omega) (by have := HI.out.2.1; omega) HI.out.2.2.size ?_; intro v' w3 hown' hgrow _; obtain ⟨w4, j4, hrun4, hj4, hm4, ht4⟩ := (HF.out.2.1.same (map_grown HI.out.1 hgrow HF.out.2.1.isMap)).store (t := 100) v'; have HE := Lib.hid (And.intro hown' (And.intro hgrow (And.intro hj4 (And.intro hm4 ht4)))); clear hown' hgrow hj4 hm4 ht4)
        go_roundw
        case rel =>
          refine ⟨j + 1, vi (by omega), hlt, ⟨es.set j4 (ckOf ⟨⟨k1, s1, l1⟩, ⟨k2, s2, l2⟩, ⟨k3, s3, l3⟩⟩, v'), ?_⟩, ?_⟩
          · rw [HS.out.1]
            refine SideAt.hit _ HF.out.1 HF.out.2.2.2.1.keys HF.out.2.2.2.1.nodup HF.out.2.2.1 ?_ HE.out.2.1 (HF.out.2.1.same (map_grown HI.out.1 HE.out.2.1 HF.out.2.1.isMap)).isMap j4 HE.out.2.2.1 HE.out.2.2.2.1 HE.out.2.2.2.2
            rw [HF.out.2.2.2.2.2]
            unfold OwnSet
            rw [List.length_append, List.flatMap_append]
            exact HE.out.1
          · exact HE.out.2.2.2.2.below (by rw [HB.out]; exact Nat.le_refl _) (Below.grown HI.out.2.2 HE.out.2.1 HI.out.2.2.size fun k hk => (World.ownsRow.lt HI.out.1 k hk).1)
        case measure => simp [intOf]; omega
      · obtain ⟨w2, stamp, hrun2, hent, ht2⟩ := hSW.map.entry_miss (t := 100) Try.underlying100 keysCk hkl (fun x hx e => by
          obtain ⟨y, hy, rfl⟩ := List.mem_map.1 hx
          exact hin (List.mem_map.2 ⟨y, hy, vCk_inj e⟩)) (z := .slice none 0 0) (by kernel_rfl)
        have hown2 : ∀ e ∈ es, OwnSet w.heap.size w2 e.2 (grp e.1 L) := fun e' he' => own_turned (hSW.own e' he') ht2 hSW.map.isMap
        have hb2 := ht2.below (B := w.heap.size) (by rw [HB.out]; exact Nat.le_refl _) hxW
        have hnew2 : ∀ (i : Nat) (u : Value), (encTr ⟨⟨k1, s1, l1⟩, ⟨k2, s2, l2⟩, ⟨k3, s3, l3⟩⟩)[i]? = some u → w2.cell? ((⟨wa.heap.size, 0, none⟩ : Addr).add i) = some u := fun i u hu => by
          rw [← hnew i u hu, Go.WideShapes.add_plain]
          refine World.cell?_of_block (ht2.other wa.heap.size fun e => ?_)
          have := HM.out.1.map.lt
          have := hxb.size
          omega
        have hrow : w2.ownsRow w.heap.size 82 9 (.slice none 0 0) 0 [] := World.ownsRow_nil _ _ _ _
        dsimp only [vCk, ckOf] at hrun2
        have HF := Lib.hid (And.intro hown2 (And.intro hent (And.intro hin (And.intro hSW hnew2))))
        clear hown2 hent hin hSW hnew2 hnew ht2 hkl
        have HI := Lib.hid (And.intro hrow hb2)
        clear hrow hb2
        go_wp2_with (at_builtin; refine wpList_append_own _ rfl _ _ 22 rfl w.heap.size 82 i0 z 9 120 Try.underlying22 HK.out.2.1 HK.out.2.2.1 HK.out.2.2.2.1 HK.out.2.2.2.2.1 HK.out.2.2.2.2.2 (by decide) _ _ _ rfl HI.out.1 ⟨wa.heap.size, 0, none⟩ 1 1 (encTr ⟨⟨k1, s1, l1⟩, ⟨k2, s2, l2⟩, ⟨k3, s3, l3⟩⟩) rfl rfl HF.out.2.2.2.2 (one9 _) (by decide) (by decide) HI.out.2.size ?_; intro v' w3 hown' hgrow _; obtain ⟨w4, hrun4, hm4, ht4⟩ := (HF.out.2.1.same (map_grown HI.out.1 hgrow HF.out.2.1.isMap)).store (t := 100) v'; have HE := Lib.hid (And.intro hown' (And.intro hgrow (And.intro hm4 ht4))); clear hown' hgrow hm4 ht4)
        go_roundw
        case rel =>
          refine ⟨j + 1, vi (by omega), hlt, ⟨es ++ [(ckOf ⟨⟨k1, s1, l1⟩, ⟨k2, s2, l2⟩, ⟨k3, s3, l3⟩⟩, v')], ?_⟩, ?_⟩
          · rw [HS.out.1]
            exact SideAt.fresh _ HF.out.1 HF.out.2.2.2.1.keys HF.out.2.2.1 HE.out.1 HE.out.2.1 (HF.out.2.1.same (map_grown HI.out.1 HE.out.2.1 HF.out.2.1.isMap)).isMap HE.out.2.2.1 HE.out.2.2.2
          · exact HE.out.2.2.2.below (by rw [HB.out]; exact Nat.le_refl _) (Below.grown HI.out.2 HE.out.2.1 HI.out.2.size fun k hk => (World.ownsRow.lt HI.out.1 k hk).1)
        case measure => simp [intOf]; omega
    · have hjl : j = l.length := by omega
      subst hjl
      rw [List.take_length] at hS
      have HM := Lib.hid hS
      clear hS hcells
      go_wp2
      go_ret
      exact ⟨mb, es, rfl, by rw [HB.out]; exact Nat.le_refl _, HM.out, hx⟩
end Go.Proofs.Ytmobdmljbbckiaa
