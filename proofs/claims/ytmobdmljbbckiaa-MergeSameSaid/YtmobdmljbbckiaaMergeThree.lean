/- merge.three: what comes of two sides. -/
import Derived.Test.YtmobdmljbbckiaaMergeOf
import Derived.Test.YtmobdmljbbckiaaMergePairs
import Derived.Test.YtmobdmljbbckiaaMergePure
import Derived.Test.YtmobdmljbbckiaaEqualTr
import Derived.Test.YtmobdmljbbckiaaAppendNo
namespace Go.Proofs.Ytmobdmljbbckiaa
open Go.RowKit Go.Maps
set_option maxHeartbeats 1600000
set_option maxRecDepth 100000

theorem flat_one {α : Type} (f : α → Value) : ∀ l : List α, (l.flatMap fun x => [f x]) = l.map f
  | [] => rfl
  | x :: l => by rw [List.flatMap_cons, flat_one f l]; rfl
theorem reads_maps (W : World) (l : List Nat) (hn : l.length ≤ 1000) : Reads (fun b : Nat => [Value.map (some b)]) (W.alloc (.cells (l.map fun b => Value.map (some b)).toArray 100)) (.slice (some ⟨W.heap.size, 0, none⟩) l.length l.length) l := by
  refine ⟨_, l.length, rfl, Nat.le_refl _, by unfold maxLen; omega, fun _ => ⟨_, 0, rfl, fun i u hi => ?_⟩⟩
  rw [flat_one (fun b : Nat => Value.map (some b)) l] at hi
  have := cells_new W (l.map fun b => Value.map (some b)).toArray 100 W.heap.size rfl i u (by simpa using hi)
  rw [Go.WideShapes.add_plain] at this
  exact this
theorem Ck.cells {w : World} {b off : Nat} {l : List Ck} (hc : ∀ t u, (l.flatMap encCk)[t]? = some u → w.cell? ⟨b, off + t, none⟩ = some u) {j : Nat} (hj : j < l.length) :
    w.cell? ⟨b, off + j * 6, none⟩ = some (.int .i64 l[j].s.kind) ∧ w.cell? ⟨b, off + j * 6 + 1, none⟩ = some (.string l[j].s.s) ∧ w.cell? ⟨b, off + j * 6 + 2, none⟩ = some (.string l[j].s.lang) ∧
    w.cell? ⟨b, off + j * 6 + 3, none⟩ = some (.int .i64 l[j].p.kind) ∧ w.cell? ⟨b, off + j * 6 + 4, none⟩ = some (.string l[j].p.s) ∧ w.cell? ⟨b, off + j * 6 + 5, none⟩ = some (.string l[j].p.lang) := by
  have h : ∀ c (hc6 : c < 6) u, (encCk l[j])[c]? = some u → w.cell? ⟨b, off + j * 6 + c, none⟩ = some u := fun c hc6 u hu => by
    rw [Nat.add_assoc]
    exact hc _ _ ((flat_get encCk_len l j c hj hc6).trans hu)
  exact ⟨h 0 (by omega) _ rfl, h 1 (by omega) _ rfl, h 2 (by omega) _ rfl, h 3 (by omega) _ rfl, h 4 (by omega) _ rfl, h 5 (by omega) _ rfl⟩

theorem own_keep_type {w w' : World} {base base' : Nat} {e e' : TypeId} {size size' : Nat} {u v : Value} {n m : Nat} {xs ys : List Value} (h : w.ownsRow base e size u n xs) (hv : w.ownsRow base' e' size' v m ys) (hg : w.grownBy w' v.ownBlock) (hne : e ≠ e') : w'.ownsRow base e size u n xs := by
  obtain ⟨h1, h2 | ⟨g, cap, cur, hu, hgb, hc, r⟩⟩ := h
  · exact ⟨h1, .inl h2⟩
  · exact ⟨h1, .inr ⟨g, cap, cur, hu, hgb, keep_other hv (Ext.refl w) hg hc hne, r⟩⟩
theorem outL_len (first : Bool) (o a b : List Tr) (na : a.length ≤ 1000) (nb : b.length ≤ 1000) : ∀ K : List Ck, (outL first o a b K).length ≤ 2000 * K.length
  | [] => by simp [outL]
  | k :: K => by
    have h1 := outL_len first o a b na nb K
    have h2 := mineL_len first (grp k o) (grp k a) (grp k b)
    have h3 := grp_len k a
    have h4 := grp_len k b
    unfold outL at h1 ⊢
    rw [List.flatMap_cons, List.length_append, List.length_cons]
    omega
theorem pairs_len {o a b : List Tr} {K : List Ck} (h : Pairs3 o a b K) (no : o.length ≤ 1000) (na : a.length ≤ 1000) (nb : b.length ≤ 1000) : K.length ≤ 3000 := by
  have := nodup_le K ((o ++ a ++ b).map ckOf) (h.2.nodup law_cmpCk) fun k hk => by
    rcases (h.1 k).1 hk with ⟨t, ht, e⟩ | ⟨t, ht, e⟩ | ⟨t, ht, e⟩
    · exact List.mem_map.2 ⟨t, by simp [ht], e⟩
    · exact List.mem_map.2 ⟨t, by simp [ht], e⟩
    · exact List.mem_map.2 ⟨t, by simp [ht], e⟩
  simp only [List.length_map, List.length_append] at this
  omega
theorem sideLen {w : World} {B b : Nat} {l : List Tr} {es : List (Ck × Value)} (h : SideAt w B b l es) : es.length ≤ l.length := by
  have := nodup_le (es.map (·.1)) (l.map ckOf) h.nodup fun k hk => by
    obtain ⟨t, ht, e⟩ := (h.keys k).1 hk
    exact List.mem_map.2 ⟨t, ht, e⟩
  simpa using this
theorem sideKey {w : World} {B b : Nat} {l : List Tr} {es : List (Ck × Value)} (h : SideAt w B b l es) (hk : ∀ t ∈ l, CkKey (ckOf t)) : ∀ e ∈ es, CkKey e.1 := fun e he => by
  obtain ⟨t, ht, q⟩ := (h.keys e.1).1 (List.mem_map.2 ⟨e, he, rfl⟩)
  rw [← q]; exact hk t ht

theorem mergeThree_any (vo va vb : Value) (o a b : List Tr) (first : Bool) (w : World) (ho : Reads encTr w vo o) (ha : Reads encTr w va a) (hb : Reads encTr w vb b)
    (ko : ∀ t ∈ o, CkKey (ckOf t)) (ka : ∀ t ∈ a, CkKey (ckOf t)) (kb : ∀ t ∈ b, CkKey (ckOf t)) (no : o.length ≤ 1000) (na : a.length ≤ 1000) (nb : b.length ≤ 1000) :
    Calls Try.prog 49 #[vo, va, vb, .bool first] w fun e w' => ∃ p c q d, ∃ K : List Ck, e = .returned (.tuple #[.slice p (outL first o a b K).length c, .slice q (clL o a b K).length d]) ∧ Pairs3 o a b K ∧ OwnSet w.heap.size w' (.slice p (outL first o a b K).length c) (outL first o a b K) ∧ Ext w w' := by
  obtain ⟨i0, z, hi, hz0, hz1, hz2, hz3⟩ := infoTr
  obtain ⟨i1, z1, hj, hy0, hy1, hy2, hy3⟩ := infoCk
  have c1 := fun W (hW : Ext w W) => mergeOf_any vo o W (ho.ext hW) ko no
  have c2 := fun W (hW : Ext w W) => mergeOf_any va a W (ha.ext hW) ka na
  have c3 := fun W (hW : Ext w W) => mergeOf_any vb b W (hb.ext hW) kb nb
  obtain ⟨po, co, rfl⟩ := ho.slice
  obtain ⟨pa, ca, rfl⟩ := ha.slice
  obtain ⟨pb, cb, rfl⟩ := hb.slice
  have HC := Lib.hid (And.intro c1 (And.intro c2 c3))
  have HT := Lib.hid (And.intro (And.intro hi (And.intro hz0 (And.intro hz1 (And.intro hz2 hz3)))) (And.intro hj (And.intro hy0 (And.intro hy1 (And.intro hy2 hy3)))))
  have HN := Lib.hid (And.intro ko (And.intro ka (And.intro kb (And.intro no (And.intro na nb)))))
  clear c1 c2 c3 ho ha hb hi hz0 hz1 hz2 hz3 hj hy0 hy1 hy2 hy3 ko ka kb no na nb
  have hx0 := Ext.refl w
  go_enter Try.func49, Try.ntmps49
  go_upto_region 2 with (first | (go_at_call 44; with_reducible refine (HC.out.1 _ hx0).mono ?_; rintro e w1 ⟨b1, e1, rfl, hb1, hs1, hx1⟩; have H1 := Lib.hid (And.intro hb1 hs1); clear hb1 hs1) | (go_at_call 44; with_reducible refine (HC.out.2.1 _ hx1).mono ?_; rintro e w2 ⟨b2, e2, rfl, hb2, hs2, hx2⟩; have H2 := Lib.hid (And.intro hb2 hs2); clear hb2 hs2) | (go_at_call 44; with_reducible refine (HC.out.2.2 _ (hx1.trans hx2)).mono ?_; rintro e w3 ⟨b3, e3, rfl, hb3, hs3, hx3⟩; have H3 := Lib.hid (And.intro hb3 hs3); clear hb3 hs3))
  have S1 := H1.out.2.ext (hx2.trans hx3)
  have S2 := H2.out.2.ext hx3
  have S3 := H3.out.2
  have hp : Calls Try.prog 46 #[.slice (some ⟨w3.heap.size, 0, none⟩) 3 3] (w3.alloc (.cells #[.map (some b1), .map (some b2), .map (some b3)] 100)) fun e w' => ∃ p c, ∃ K : List Ck, e = .returned (.slice p K.length c) ∧ (Pairs3 o a b K ∧ w'.ownsRow (w3.heap.size + 1) 54 6 (.slice p K.length c) K.length (K.flatMap encCk)) ∧ Ext w3 w' := by
    have := mergePairs_any _ [b1, b2, b3] [e1, e2, e3] _ (reads_maps w3 [b1, b2, b3] (by simp)) rfl (fun j h h' => by
      match j, h with
      | 0, _ => exact S1.map.ext ((Ext.refl w3).alloc _)
      | 1, _ => exact S2.map.ext ((Ext.refl w3).alloc _)
      | 2, _ => exact S3.map.ext ((Ext.refl w3).alloc _)) (fun es hes e he => by
      simp only [List.mem_cons, List.not_mem_nil, or_false] at hes
      rcases hes with rfl | rfl | rfl
      · exact sideKey S1 HN.out.1 e he
      · exact sideKey S2 HN.out.2.1 e he
      · exact sideKey S3 HN.out.2.2.1 e he) (by
      have l1 := sideLen S1
      have l2 := sideLen S2
      have l3 := sideLen S3
      have := HN.out.2.2.2
      simp only [List.flatten_cons, List.flatten_nil, List.length_append, List.length_nil]
      omega)
    refine Calls.mono this fun e W' ⟨p, c, K, h1, h2, h3, h4⟩ => ⟨p, c, K, h1, ⟨⟨fun k => ?_, h2.2⟩, own_mono h3 (by simp)⟩, ((Ext.refl w3).alloc _).trans h4⟩
    rw [h2.1 k, ← S1.keys k, ← S2.keys k, ← S3.keys k]
    simp
  have HS := Lib.hid (And.intro S1 (And.intro S2 (And.intro S3 (And.intro H1.out.1 (And.intro H2.out.1 H3.out.1)))))
  have HP := Lib.hid hp
  have hx13 := (hx1.trans hx2).trans hx3
  clear S1 S2 S3 hp H1 H2 H3 hx1 hx2 hx3 HC
  go_upto_region 3 with (go_at_call 46; refine HP.out.mono ?_; rintro e w4 ⟨pk, ck, K, rfl, hpk, hx4⟩; have HK := Lib.hid hpk; clear hpk)
  have hKn := pairs_len HK.out.1 HN.out.2.2.2.1 HN.out.2.2.2.2.1 HN.out.2.2.2.2.2
  obtain ⟨_, cap', hval, hcap, hmax, hcells0⟩ : Reads encCk w4 (.slice pk K.length ck) K := Reads.of_owns HK.out.2
  cases hval
  unfold maxLen at hmax
  have hcells := Lib.hid hcells0
  clear hcells0 HP
  go_wp2
  go_loopw [8, 9, 28] (fun ov cv jv wr => ∃ j : Nat, jv = .int .i64 j ∧ j ≤ K.length ∧ Hid (OwnSet w4.heap.size wr ov (outL first o a b (K.take j))) ∧ Hid (wr.ownsRow w4.heap.size 54 6 cv (clL o a b (K.take j)).length ((clL o a b (K.take j)).flatMap encCk)) ∧ Ext w4 wr) (fun _ _ jv _ => K.length - (intOf jv).toNat)
  case atStart => exact ⟨0, rfl, Nat.zero_le _, Lib.hid (OwnSet.nil _ _), Lib.hid (World.ownsRow_nil _ _ _ _), Ext.refl _⟩
  case round =>
    obtain ⟨j, rfl, hj, hov, hcv, hx⟩ := hrel
    by_cases hlt : j < K.length
    · obtain ⟨bk, off, rfl, hc⟩ := hcells.out (fun h => by rw [h] at hlt; exact absurd hlt (Nat.not_lt_zero _))
      obtain ⟨q0, q1, q2, q3, q4, q5⟩ := Ck.cells hc hlt
      have d0 := hx.cell q0
      have d1 := hx.cell q1
      have d2 := hx.cell q2
      have d3 := hx.cell q3
      have d4 := hx.cell q4
      have d5 := hx.cell q5
      have hkey : CkKey K[j] := by
        rcases (HK.out.1.1 K[j]).1 (List.getElem_mem hlt) with ⟨t, ht, e⟩ | ⟨t, ht, e⟩ | ⟨t, ht, e⟩
        · rw [← e]; exact HN.out.1 t ht
        · rw [← e]; exact HN.out.2.1 t ht
        · rw [← e]; exact HN.out.2.2.1 t ht
      obtain ⟨p1, m1, lo, ro⟩ := (HS.out.1.ext hx4).look K[j] hkey
      obtain ⟨p2, m2, lx, rx⟩ := (HS.out.2.1.ext hx4).look K[j] hkey
      obtain ⟨p3, m3, ly, ry⟩ := (HS.out.2.2.1.ext hx4).look K[j] hkey
      have hst : K.take (j + 1) = K.take j ++ [K[j]] := List.take_succ_eq_append_getElem hlt
      have hout := outL_snoc first o a b (K.take j) K[j]
      have hcl := clL_snoc o a b (K.take j) K[j]
      rw [← hst] at hout hcl
      have hol := outL_len first o a b HN.out.2.2.2.2.1 HN.out.2.2.2.2.2 (K.take j)
      have hcn : (clL o a b (K.take j)).length ≤ K.length := Nat.le_trans (List.length_filter_le _ _) (by rw [List.length_take]; omega)
      have hjn : (K.take j).length ≤ 3000 := by rw [List.length_take]; omega
      have g2 := grp_len K[j] a
      have g3 := grp_len K[j] b
      have na := HN.out.2.2.2.2.1
      have nb := HN.out.2.2.2.2.2
      have hl2 : (grp K[j] a).length ≤ 1000 := by omega
      have hl3 : (grp K[j] b).length ≤ 1000 := by omega
      clear q0 q1 q2 q3 q4 q5 hc hst g2 g3 na nb
      generalize K[j] = k at d0 d1 d2 d3 d4 d5 hkey lo ro lx rx ly ry hout hcl hl2 hl3
      generalize grp k o = O at lo ro hout hcl
      generalize grp k a = X at lx rx hout hcl hl2
      generalize grp k b = Y at ly ry hout hcl hl3
      obtain ⟨⟨k1, s1, g1⟩, ⟨k2, s2, g2⟩⟩ := k
      dsimp only [vCk] at *
      have HL := Lib.hid (And.intro lo (And.intro lx ly))
      have HR := Lib.hid (And.intro ro (And.intro rx ry))
      have HE := Lib.hid (And.intro hout (And.intro hcl (And.intro hol (And.intro hcn (And.intro hjn (And.intro hl2 hl3))))))
      clear lo lx ly ro rx ry hout hcl hol hcn hjn hl2 hl3 hkey
      go_upto_region 5 with fail
      have hxb := (Ext.refl wr).alloc (.cells #[.int .i64 k1, .string s1, .string g1, .int .i64 k2, .string s2, .string g2] 54)
      have hba := alloc_heap_new wr (.cells #[.int .i64 k1, .string s1, .string g1, .int .i64 k2, .string s2, .string g2] 54)
      generalize hwa : World.alloc wr _ = wa at hxb hba ⊢
      clear hwa d0 d1 d2 d3 d4 d5
      have A0 := cells_at hba
      have hxa := hx.trans hxb
      have hlx5 := HL.out.2.1 wa hxa
      go_upto_region 9 with fail
      clear A0 hlx5
      have A := Later.cells hba
      have h1 := fun (x : Later wa) => HL.out.1 x.wd (hxa.trans x.ext)
      have h2 := fun (x : Later wa) => HL.out.2.1 x.wd (hxa.trans x.ext)
      have hq := fun (x : Later wa) => equal_tr _ _ O X x.wd (HR.out.1.ext (hxa.trans x.ext)) (HR.out.2.1.ext (hxa.trans x.ext))
      by_cases hOX : O = X
      · rw [decide_eq_true hOX] at hq
        have HQ := Lib.hid (And.intro hq hOX)
        clear hq hOX
        refine wp_region_ext [0, 1, 2, 3, 4, 5, 6, 7] [] (by kernel_rfl) (by kernel_rfl) ?_
        simp only [List.filterMap_cons, List.filterMap_nil, List.getElem?_cons_succ, List.getElem?_cons_zero]
        repeat (first | ((with_reducible refine wpFr_yes ?hw ?_); (case hw => rfl); intro K hK; go_simp; (first | (refine hK _ ?_; clear hK K) | (apply Exists.intro; refine ⟨fun x => ?_, hK _ ?_⟩; ((go_at_call 48; exact HQ.out.1 x)); clear hK K))) | ((with_reducible refine wpFr_not ?hw ?_); (case hw => rfl); intro K hK; go_simp; (refine hK _ ?_; clear hK K)))
        refine wpFr_nil ?_
        clear A h1 h2
        refine wpTl_nil fun x1 hx1 => ?_
        have A1 := cells_at (heap_ext hx1 hba)
        have hy1 := HL.out.2.2 x1 (hxa.trans hx1)
        have HO := Lib.hid (And.intro (hov.out.ext (hxb.trans hx1)) (And.intro (own_ext hcv.out (hxb.trans hx1)) ((HR.out.2.2).ext (hx.trans (hxb.trans hx1)))))
        have hxw := hx.trans (hxb.trans hx1)
        go_wp2_with (at_builtin; refine wpList_append_reads rfl _ _ 22 rfl w4.heap.size 82 i0 z 9 120 Try.underlying22 HT.out.1.1 HT.out.1.2.1 HT.out.1.2.2.1 HT.out.1.2.2.2.1 HT.out.1.2.2.2.2 (by decide) encTr_len one9 _ _ _ rfl HO.out.1 _ _ rfl HO.out.2.2 (by have := HE.out.2.2; unfold maxLen; omega) (by have := HE.out.2.2; omega) hxw.size ?_; intro v7 w7 hown7 hgrow7; have HF := Lib.hid (And.intro hown7 hgrow7); clear hown7 hgrow7)
        go_roundw
        case rel =>
          refine ⟨j + 1, vi (by omega), hlt, Lib.hid ?_, Lib.hid ?_, hxw.grown HF.out.2 hxw.size (fun q hq => (World.ownsRow.lt HO.out.1 q hq).1)⟩
          · rw [HE.out.1, show mineL first O X Y = Y from if_pos HQ.out.2]
            unfold OwnSet
            rw [List.length_append, List.flatMap_append]
            exact HF.out.1
          · rw [HE.out.2.1, show isCl O X Y = false by simp [isCl, HQ.out.2]]
            exact own_keep_type HO.out.2.1 HO.out.1 HF.out.2 (by decide)
        case measure => simp [intOf]; omega
      · rw [decide_eq_false hOX] at hq
        have HQ := Lib.hid (And.intro hq hOX)
        clear hq hOX
        refine wp_region_ext [0, 1, 2, 3, 4, 5, 6, 7] [] (by kernel_rfl) (by kernel_rfl) ?_
        simp only [List.filterMap_cons, List.filterMap_nil, List.getElem?_cons_succ, List.getElem?_cons_zero]
        repeat (first | ((with_reducible refine wpFr_yes ?hw ?_); (case hw => rfl); intro K hK; go_simp; (first | (refine hK _ ?_; clear hK K) | (apply Exists.intro; refine ⟨fun x => ?_, hK _ ?_⟩; ((go_at_call 48; exact HQ.out.1 x)); clear hK K))) | ((with_reducible refine wpFr_not ?hw ?_); (case hw => rfl); intro K hK; go_simp; (refine hK _ ?_; clear hK K)))
        refine wpFr_nil ?_
        clear A h1 h2
        refine wpTl_nil fun x1 hx1 => ?_
        have hxc := hxa.trans hx1
        have hxd := hxb.trans hx1
        replace hba := heap_ext hx1 hba
        clear hxa hx1
        go_upto_region 11 with fail
        have A := Later.cells hba
        have h1 := fun (x : Later x1) => HL.out.1 x.wd (hxc.trans x.ext)
        have h2 := fun (x : Later x1) => HL.out.2.1 x.wd (hxc.trans x.ext)
        have h3 := fun (x : Later x1) => HL.out.2.2 x.wd (hxc.trans x.ext)
        have hq := fun (x : Later x1) => equal_tr _ _ O Y x.wd (HR.out.1.ext (hxc.trans x.ext)) (HR.out.2.2.ext (hxc.trans x.ext))
        have hr := fun (x : Later x1) => equal_tr _ _ X Y x.wd (HR.out.2.1.ext (hxc.trans x.ext)) (HR.out.2.2.ext (hxc.trans x.ext))
        by_cases hOY : O = Y
        · rw [decide_eq_true hOY] at hq
          have HQ2 := Lib.hid (And.intro hq hOY)
          clear hq hr hOY
          refine wp_region_ext [0, 1, 2, 3, 4, 5, 6, 7, 8, 9, 10, 11, 12, 13, 14, 15, 16] [] (by kernel_rfl) (by kernel_rfl) ?_
          simp only [List.filterMap_cons, List.filterMap_nil, List.getElem?_cons_succ, List.getElem?_cons_zero]
          repeat (first | ((with_reducible refine wpFr_yes ?hw ?_); (case hw => rfl); intro K hK; go_simp; (first | (refine hK _ ?_; clear hK K) | (apply Exists.intro; refine ⟨fun x => ?_, hK _ ?_⟩; ((go_at_call 48; exact HQ2.out.1 x)); clear hK K))) | ((with_reducible refine wpFr_not ?hw ?_); (case hw => rfl); intro K hK; go_simp; (refine hK _ ?_; clear hK K)))
          refine wpFr_nil ?_
          clear A h1 h2 h3
          refine wpTl_nil fun x2 hx2 => ?_
          have HO := Lib.hid (And.intro (hov.out.ext (hxd.trans hx2)) (And.intro (own_ext hcv.out (hxd.trans hx2)) ((HR.out.2.1).ext (hx.trans (hxd.trans hx2)))))
          have hxw := hx.trans (hxd.trans hx2)
          go_wp2_with (at_builtin; refine wpList_append_reads rfl _ _ 22 rfl w4.heap.size 82 i0 z 9 120 Try.underlying22 HT.out.1.1 HT.out.1.2.1 HT.out.1.2.2.1 HT.out.1.2.2.2.1 HT.out.1.2.2.2.2 (by decide) encTr_len one9 _ _ _ rfl HO.out.1 _ _ rfl HO.out.2.2 (by have := HE.out.2.2; unfold maxLen; omega) (by have := HE.out.2.2; omega) hxw.size ?_; intro v7 w7 hown7 hgrow7; have HF := Lib.hid (And.intro hown7 hgrow7); clear hown7 hgrow7)
          go_roundw
          case rel =>
            refine ⟨j + 1, vi (by omega), hlt, Lib.hid ?_, Lib.hid ?_, hxw.grown HF.out.2 hxw.size (fun q hq => (World.ownsRow.lt HO.out.1 q hq).1)⟩
            · rw [HE.out.1, show mineL first O X Y = X from (if_neg HQ.out.2).trans (if_pos (.inl HQ2.out.2))]
              unfold OwnSet
              rw [List.length_append, List.flatMap_append]
              exact HF.out.1
            · rw [HE.out.2.1, show isCl O X Y = false by simp [isCl, HQ2.out.2]]
              exact own_keep_type HO.out.2.1 HO.out.1 HF.out.2 (by decide)
          case measure => simp [intOf]; omega
        · rw [decide_eq_false hOY] at hq
          by_cases hXY : X = Y
          · rw [decide_eq_true hXY] at hr
            have HQ2 := Lib.hid (And.intro hq (And.intro hr (And.intro hOY hXY)))
            clear hq hr hOY hXY
            refine wp_region_ext [0, 1, 2, 3, 4, 5, 6, 7, 8, 9, 10, 11, 12, 13, 14, 15, 16] [] (by kernel_rfl) (by kernel_rfl) ?_
            simp only [List.filterMap_cons, List.filterMap_nil, List.getElem?_cons_succ, List.getElem?_cons_zero]
            repeat (first | ((with_reducible refine wpFr_yes ?hw ?_); (case hw => rfl); intro K hK; go_simp; (first | (refine hK _ ?_; clear hK K) | (apply Exists.intro; refine ⟨fun x => ?_, hK _ ?_⟩; ((go_at_call 48; first | (with_reducible exact HQ2.out.1 x) | (with_reducible exact HQ2.out.2.1 x))); clear hK K))) | ((with_reducible refine wpFr_not ?hw ?_); (case hw => rfl); intro K hK; go_simp; (refine hK _ ?_; clear hK K)))
            refine wpFr_nil ?_
            clear A h1 h2 h3
            refine wpTl_nil fun x2 hx2 => ?_
            have HO := Lib.hid (And.intro (hov.out.ext (hxd.trans hx2)) (And.intro (own_ext hcv.out (hxd.trans hx2)) ((HR.out.2.1).ext (hx.trans (hxd.trans hx2)))))
            have hxw := hx.trans (hxd.trans hx2)
            go_wp2_with (at_builtin; refine wpList_append_reads rfl _ _ 22 rfl w4.heap.size 82 i0 z 9 120 Try.underlying22 HT.out.1.1 HT.out.1.2.1 HT.out.1.2.2.1 HT.out.1.2.2.2.1 HT.out.1.2.2.2.2 (by decide) encTr_len one9 _ _ _ rfl HO.out.1 _ _ rfl HO.out.2.2 (by have := HE.out.2.2; unfold maxLen; omega) (by have := HE.out.2.2; omega) hxw.size ?_; intro v7 w7 hown7 hgrow7; have HF := Lib.hid (And.intro hown7 hgrow7); clear hown7 hgrow7)
            go_roundw
            case rel =>
              refine ⟨j + 1, vi (by omega), hlt, Lib.hid ?_, Lib.hid ?_, hxw.grown HF.out.2 hxw.size (fun q hq => (World.ownsRow.lt HO.out.1 q hq).1)⟩
              · rw [HE.out.1, show mineL first O X Y = X from (if_neg HQ.out.2).trans (if_pos (.inr HQ2.out.2.2.2))]
                unfold OwnSet
                rw [List.length_append, List.flatMap_append]
                exact HF.out.1
              · rw [HE.out.2.1, show isCl O X Y = false by simp [isCl, HQ2.out.2.2.2]]
                exact own_keep_type HO.out.2.1 HO.out.1 HF.out.2 (by decide)
            case measure => simp [intOf]; omega
          · rw [decide_eq_false hXY] at hr
            have HQ2 := Lib.hid (And.intro hq (And.intro hr (And.intro hOY hXY)))
            clear hq hr hOY hXY
            refine wp_region_ext [0, 1, 2, 3, 4, 5, 6, 7, 8, 9, 10, 11, 12, 13, 14, 15, 16] [] (by kernel_rfl) (by kernel_rfl) ?_
            simp only [List.filterMap_cons, List.filterMap_nil, List.getElem?_cons_succ, List.getElem?_cons_zero]
            repeat (first | ((with_reducible refine wpFr_yes ?hw ?_); (case hw => rfl); intro K hK; go_simp; (first | (refine hK _ ?_; clear hK K) | (apply Exists.intro; refine ⟨fun x => ?_, hK _ ?_⟩; ((go_at_call 48; first | (with_reducible exact HQ2.out.1 x) | (with_reducible exact HQ2.out.2.1 x))); clear hK K))) | ((with_reducible refine wpFr_not ?hw ?_); (case hw => rfl); intro K hK; go_simp; (refine hK _ ?_; clear hK K)))
            refine wpFr_nil ?_
            clear A h1 h2 h3
            refine wpTl_nil fun x2 hx2 => ?_
            have hxd2 := hxd.trans hx2
            have hx6 := (hxc.trans hx2).alloc (.cells #[.int .i64 k1, .string s1, .string g1, .int .i64 k2, .string s2, .string g2] 54)
            have hxd6 := hxd2.alloc (.cells #[.int .i64 k1, .string s1, .string g1, .int .i64 k2, .string s2, .string g2] 54)
            have hb6 := heap_ext ((Ext.refl x2).alloc (.cells #[.int .i64 k1, .string s1, .string g1, .int .i64 k2, .string s2, .string g2] 54)) (heap_ext hx2 hba)
            have hkb : some wr.heap.size ≠ u9.ownBlock := fun e => absurd (World.ownsRow.lt hcv.out wr.heap.size e.symm).2 (Nat.lt_irrefl _)
            have A2 := cells_at (heap_ext hx2 hba)
            have HO := Lib.hid (And.intro (hov.out.ext hxd6) (own_ext hcv.out hxd6))
            have hcl6 := Lib.hid (show isCl O X Y = true by simp [isCl, HQ.out.2, HQ2.out.2.2.1, HQ2.out.2.2.2])
            have hmi := Lib.hid (show mineL first O X Y = if first then X else Y from (if_neg HQ.out.2).trans (if_neg (fun h => h.elim HQ2.out.2.2.1 HQ2.out.2.2.2)))
            have HB := Lib.hid (And.intro hb6 hkb)
            clear hb6 hkb hba
            go_upto_region 7 with (at_builtin; refine wpList_append_own _ rfl _ _ 50 rfl w4.heap.size 54 i1 z1 6 80 Try.underlying50 HT.out.2.1 HT.out.2.2.1 HT.out.2.2.2.1 HT.out.2.2.2.2.1 HT.out.2.2.2.2.2 (by decide) _ _ _ rfl HO.out.2 ⟨x2.heap.size, 0, none⟩ 1 1 [.int .i64 k1, .string s1, .string g1, .int .i64 k2, .string s2, .string g2] rfl rfl (fun j u hj => cells_new x2 #[.int .i64 k1, .string s1, .string g1, .int .i64 k2, .string s2, .string g2] 54 x2.heap.size rfl j u hj) (fun u hu => by simp at hu; rcases hu with rfl | rfl | rfl | rfl | rfl | rfl <;> rfl) (by have := HE.out.2.2; unfold maxLen; omega) (by have := HE.out.2.2; omega) hx6.size ?_; intro v6 w6 hown6 hgrow6 _; have HG := Lib.hid (And.intro hown6 hgrow6); clear hown6 hgrow6)
            have hxw := hx6.grown HG.out.2 hx6.size (fun q hq => (World.ownsRow.lt HO.out.2 q hq).1)
            have ho6 := own_keep_type HO.out.1 HO.out.2 HG.out.2 (by decide)
            have A6 := cells_at ((HG.out.2.block wr.heap.size (Array.getElem?_eq_some_iff.1 HB.out.1).1 HB.out.2).trans HB.out.1)
            have hy6 := HL.out.2.2 w6 hxw
            clear A2
            cases hnf : !first with
            | false =>
              have hf : first = true := by simpa using hnf
              have HO6 := Lib.hid (And.intro ho6 (And.intro HG.out.1 (HR.out.2.1.ext hxw)))
              have hm6 := Lib.hid (hmi.out.trans (if_pos hf))
              clear hf ho6
              go_wp2_with (at_builtin; refine wpList_append_reads rfl _ _ 22 rfl w4.heap.size 82 i0 z 9 120 Try.underlying22 HT.out.1.1 HT.out.1.2.1 HT.out.1.2.2.1 HT.out.1.2.2.2.1 HT.out.1.2.2.2.2 (by decide) encTr_len one9 _ _ _ rfl HO6.out.1 _ _ rfl HO6.out.2.2 (by have := HE.out.2.2; unfold maxLen; omega) (by have := HE.out.2.2; omega) hxw.size ?_; intro v7 w7 hown7 hgrow7; have HF := Lib.hid (And.intro hown7 hgrow7); clear hown7 hgrow7)
              go_roundw
              case rel =>
                refine ⟨j + 1, vi (by omega), hlt, Lib.hid ?_, Lib.hid ?_, hxw.grown HF.out.2 hxw.size (fun q hq => (World.ownsRow.lt HO6.out.1 q hq).1)⟩
                · rw [HE.out.1, hm6.out]
                  unfold OwnSet
                  rw [List.length_append, List.flatMap_append]
                  exact HF.out.1
                · rw [HE.out.2.1, if_pos hcl6.out, List.length_append, List.flatMap_append]
                  exact own_keep_type HO6.out.2.1 HO6.out.1 HF.out.2 (by decide)
              case measure => simp [intOf]; omega
            | true =>
              have hf : ¬ first = true := by simpa using hnf
              have HO6 := Lib.hid (And.intro ho6 (And.intro HG.out.1 (HR.out.2.2.ext hxw)))
              have hm6 := Lib.hid (hmi.out.trans (if_neg hf))
              clear hf ho6
              go_wp2_with (at_builtin; refine wpList_append_reads rfl _ _ 22 rfl w4.heap.size 82 i0 z 9 120 Try.underlying22 HT.out.1.1 HT.out.1.2.1 HT.out.1.2.2.1 HT.out.1.2.2.2.1 HT.out.1.2.2.2.2 (by decide) encTr_len one9 _ _ _ rfl HO6.out.1 _ _ rfl HO6.out.2.2 (by have := HE.out.2.2; unfold maxLen; omega) (by have := HE.out.2.2; omega) hxw.size ?_; intro v7 w7 hown7 hgrow7; have HF := Lib.hid (And.intro hown7 hgrow7); clear hown7 hgrow7)
              go_roundw
              case rel =>
                refine ⟨j + 1, vi (by omega), hlt, Lib.hid ?_, Lib.hid ?_, hxw.grown HF.out.2 hxw.size (fun q hq => (World.ownsRow.lt HO6.out.1 q hq).1)⟩
                · rw [HE.out.1, hm6.out]
                  unfold OwnSet
                  rw [List.length_append, List.flatMap_append]
                  exact HF.out.1
                · rw [HE.out.2.1, if_pos hcl6.out, List.length_append, List.flatMap_append]
                  exact own_keep_type HO6.out.2.1 HO6.out.1 HF.out.2 (by decide)
              case measure => simp [intOf]; omega
    · have hjl : j = K.length := by omega
      subst hjl
      rw [List.take_length] at hov hcv
      obtain ⟨p, c, hop⟩ := hov.out.slice
      obtain ⟨q, d, hcq⟩ := sliceOf_own hcv.out
      have HF := Lib.hid (And.intro hov.out (And.intro hop hcq))
      clear hov hcv hop hcq hcells
      go_wp2
      go_ret2
      refine ⟨p, c, q, d, K, ?_, HK.out.1, ?_, hx13.trans (hx4.trans hx)⟩
      · rw [← HF.out.2.1, ← HF.out.2.2]; rfl
      · have := HF.out.1
        rw [HF.out.2.1] at this
        exact this.mono (hx13.trans hx4).size
end Go.Proofs.Ytmobdmljbbckiaa
