/- ask.Vars. -/
import Derived.Test.YtmobdmljbbckiaaQueryPure
import Derived.Test.YtmobdmljbbckiaaMatchOf
import Derived.Test.YtmobdmljbbckiaaAppendApart
namespace Go.Proofs.Ytmobdmljbbckiaa
open Go.RowKit
set_option maxHeartbeats 1600000
set_option maxRecDepth 100000

def AskVarsPost (ps : List Pat) (w : World) (e : Ending) (w' : World) : Prop :=
  (∃ n, partsErr ps = some n ∧ e = .returned (.tuple #[.slice none 0 0, eV n]) ∧ Ext w w') ∨
  (partsErr ps = none ∧ ∃ p c, e = .returned (.tuple #[.slice p (varsAll ps).length c, .nilIface]) ∧ Reads encS w' (.slice p (varsAll ps).length c) (varsAll ps) ∧ Ext w w')

theorem askVars_any (vv vp : Value) (q : Qu) (w : World) (hp : Reads encPat w vp q.parts) (hn : q.parts.length ≤ 1000) (hv : ∃ a n c, vv = .slice a n c) :
    Calls Try.prog 61 #[vQu vv vp q] w (AskVarsPost q.parts w) := by
  obtain ⟨i0, hi, hz0, hz1, hz2⟩ : ∃ i, Try.prog.info? 9 = some i ∧ i.zero = some (.string ⟨#[]⟩) ∧ i.size = 1 ∧ i.bytes = 16 := ⟨_, rfl, rfl, rfl, rfl⟩
  have hlen := varsAll_len
  obtain ⟨va, vn, vc, rfl⟩ := hv
  obtain ⟨vars, parts, order, down, dist, limit⟩ := q
  dsimp only at *
  obtain ⟨a, cap, rfl, hcap, hmax, hcells0⟩ := hp
  unfold maxLen at hmax
  have hcells := Lib.hid hcells0
  have HT := Lib.hid (And.intro hi (And.intro hz0 (And.intro hz1 hz2)))
  have HL := Lib.hid hlen
  clear hcells0 hi hz0 hz1 hz2 hlen
  go_enter Try.func61, Try.ntmps61
  go_upto_region 1 with fail
  have hxb := (Ext.refl w).alloc (.cells #[.slice va vn vc, .slice a parts.length cap, .string order, .bool down, .bool dist, .int .i64 limit] 26)
  have hba := alloc_heap_new w (.cells #[.slice va vn vc, .slice a parts.length cap, .string order, .bool down, .bool dist, .int .i64 limit] 26)
  generalize hwa : World.alloc w _ = wa at hxb hba ⊢
  clear hwa
  have A0 := cells_at hba
  go_wp2
  clear A0
  go_loopw [4, 14] (fun ov jv wr => ∃ j : Nat, jv = .int .i64 j ∧ j ≤ parts.length ∧ Hid (∀ i, i < j → patErr (parts.getD i default) = none) ∧ wr.ownsRow wa.heap.size 9 1 ov (varsAll (parts.take j)).length ((varsAll (parts.take j)).map Value.string) ∧ Ext wa wr) (fun _ jv _ => parts.length - (intOf jv).toNat)
  case atStart => exact ⟨0, rfl, Nat.zero_le _, Lib.hid (fun i hi => absurd hi (Nat.not_lt_zero _)), World.ownsRow_nil _ _ _ _, Ext.refl _⟩
  case round =>
    obtain ⟨j, rfl, hj, hb, hown, hx⟩ := hrel
    by_cases hlt : j < parts.length
    · obtain ⟨b, off, rfl, hc⟩ := hcells.out (fun h => by rw [h] at hlt; exact absurd hlt (Nat.not_lt_zero _))
      have hxw := hxb.trans hx
      have hgd : parts.getD j default = parts[j] := getD_at hlt _
      have hst : parts.take (j + 1) = parts.take j ++ [parts[j]] := List.take_succ_eq_append_getElem hlt
      have hva := varsAll_snoc (parts.take j) parts[j]
      rw [← hst] at hva
      have hl1 := HL.out (parts.take j).length (parts.take j) rfl
      have hl2 : (parts.take j).length ≤ 1000 := by rw [List.length_take]; omega
      have hl3 := patVars_len parts[j]
      obtain ⟨q0, q1, q2, q3, q4, q5, q6, q7, q8, q9, q10, q11⟩ := Pat.cells hc hlt
      have d0 := hxw.cell q0
      have d1 := hxw.cell q1
      have d2 := hxw.cell q2
      have d3 := hxw.cell q3
      have d4 := hxw.cell q4
      have d5 := hxw.cell q5
      have d6 := hxw.cell q6
      have d7 := hxw.cell q7
      have d8 := hxw.cell q8
      have d9 := hxw.cell q9
      have d10 := hxw.cell q10
      have d11 := hxw.cell q11
      clear q0 q1 q2 q3 q4 q5 q6 q7 q8 q9 q10 q11
      clear hc hst
      have hbad := fun n (h : patErr parts[j] = some n) W => vars_bad h W
      have hok := fun (h : patErr parts[j] = none) W => vars_ok h W
      generalize parts[j] = p at d0 d1 d2 d3 d4 d5 d6 d7 d8 d9 d10 d11 hgd hva hl3 hbad hok
      cases hE : patErr p with
      | some n =>
        have hbn := hbad n hE
        have hfin := firstErr_hit (f := fun i => patErr (parts.getD i default)) (k := j) (e := n) (by rw [hgd]; exact hE) hb.out (n := parts.length) hlt
        obtain ⟨⟨v1, ⟨k1, s1, g1⟩⟩, ⟨v2, ⟨k2, s2, g2⟩⟩, ⟨v3, ⟨k3, s3, g3⟩⟩⟩ := p
        dsimp only at *
        have HC := Lib.hid (And.intro hbn hfin)
        clear hbad hok hbn hfin hE hgd hva hl1 hl2 hl3
        go_wp2_with (go_at_call 22; refine (HC.out.1 _).mono ?_; rintro e w1 ⟨rfl, hx1⟩)
        go_ret2
        exact .inl ⟨n, HC.out.2, rfl, (hxw.alloc _).trans hx1⟩
      | none =>
        have hokn := hok hE
        have hokn2 : ∀ W, Calls Try.prog 22 #[vPat p] W fun e w' => ∃ pa c, e = .returned (.tuple #[.slice pa (patVars p).length c, .nilIface]) ∧ (Reads encS w' (.slice pa (patVars p).length c) (patVars p) ∧ ∀ b off, pa = some ⟨b, off, none⟩ → W.heap.size ≤ b ∧ b < w'.heap.size) ∧ Ext W w' := fun W => (hokn W).mono fun e w' ⟨v, h1, h2, h3⟩ => by
          obtain ⟨pa, c, rfl⟩ := sliceOf_own h2
          refine ⟨pa, c, h1, ⟨reads_own h2, fun b off e => ?_⟩, h3⟩
          subst e
          exact World.ownsRow.lt h2 b rfl
        clear hbad hok hokn
        generalize patVars p = vs at hokn2 hva hl3
        have hbj : ∀ i, i < j + 1 → patErr (parts.getD i default) = none := fun i hi => by
          by_cases e : i = j
          · subst e; rw [hgd]; exact hE
          · exact hb.out i (by omega)
        obtain ⟨⟨v1, ⟨k1, s1, g1⟩⟩, ⟨v2, ⟨k2, s2, g2⟩⟩, ⟨v3, ⟨k3, s3, g3⟩⟩⟩ := p
        dsimp only at *
        have HC := Lib.hid (And.intro hokn2 (And.intro hbj (And.intro hva (And.intro hl1 hl2))))
        have HO := Lib.hid hown
        clear hokn2 hbj hva hl1 hl2 hE hgd hown hb
        go_upto_region 8 with (go_at_call 22; refine (HC.out.1 _).mono ?_; rintro e w1 ⟨pa, ca, rfl, hr1, hx1⟩)
        have hx2 := (hxw.alloc (.cells #[.string v1, .int .i64 k1, .string s1, .string g1, .string v2, .int .i64 k2, .string s2, .string g2, .string v3, .int .i64 k3, .string s3, .string g3] 32)).trans hx1
        have hxr := ((Ext.refl wr).alloc (.cells #[.string v1, .int .i64 k1, .string s1, .string g1, .string v2, .int .i64 k2, .string s2, .string g2, .string v3, .int .i64 k3, .string s3, .string g3] 32)).trans hx1
        have ho1 := own_ext HO.out hxr
        clear d0 d1 d2 d3 d4 d5 d6 d7 d8 d9 d10 d11 hxr
        obtain ⟨⟨_, capv, hval, hcapv, hmaxv, hcellsv⟩, hblk⟩ := hr1
        cases hval
        unfold maxLen at hmaxv
        have hcv := Lib.hid hcellsv
        have hbk := Lib.hid hblk
        clear hcellsv hblk
        go_wp2
        go_loopw [4, 28] (fun ov kv wi => ∃ k : Nat, kv = .int .i64 k ∧ k ≤ vs.length ∧ wi.ownsRow wa.heap.size 9 1 ov (addVs (varsAll (parts.take j)) (vs.take k)).length ((addVs (varsAll (parts.take j)) (vs.take k)).map Value.string) ∧
          Hid (∀ b off, pa = some ⟨b, off, none⟩ → ov.ownBlock ≠ some b ∧ wi.heap[b]? = w1.heap[b]?) ∧ Hid (w1.heap.size ≤ wi.heap.size) ∧ Ext wa wi) (fun _ kv _ => vs.length - (intOf kv).toNat)
        case atStart =>
          refine ⟨0, rfl, Nat.zero_le _, ho1, Lib.hid fun b off e => ⟨fun h => ?_, rfl⟩, Lib.hid (Nat.le_refl _), ?_⟩
          · have h1 := (hbk.out b off e).1
            have h2 := (World.ownsRow.lt HO.out b h).2
            simp at h1
            omega
          · exact (hx.alloc _).trans hx1
        case round =>
          obtain ⟨k, rfl, hk, howni, hap, hsz, hxi⟩ := hrel
          by_cases hltk : k < vs.length
          · obtain ⟨bv, offv, hpa, hcs⟩ := hcv.out (fun h => by rw [h] at hltk; exact absurd hltk (Nat.not_lt_zero _))
            have hcx : wr.cell? ⟨bv, offv + k, none⟩ = some (.string vs[k]) := by
              rw [← Reads.one_at (enc1 := Value.string) hcs hltk]
              exact World.cell?_of_block (hap.out bv offv hpa).2
            have hstk : vs.take (k + 1) = vs.take k ++ [vs[k]] := List.take_succ_eq_append_getElem hltk
            have hst2 := addVs_snoc (varsAll (parts.take j)) (vs.take k) vs[k]
            rw [← hstk] at hst2
            have hln := addVs_len (vs.take k) (varsAll (parts.take j))
            have hln2 : (vs.take k).length ≤ 3 := by rw [List.length_take]; omega
            have hln3 : (addVs (varsAll (parts.take j)) (vs.take k)).length ≤ 4000 := by have := HC.out.2.2.2.1; have := HC.out.2.2.2.2; omega
            clear hln hln2 hstk hcs
            generalize vs[k] = x at hcx hst2
            generalize addVs (varsAll (parts.take j)) (vs.take k) = L at howni hst2 hln3
            have hct := fun W (hW : Ext wr W) => contains_str _ L x W ((reads_own howni).ext hW)
            cases hB : L.any fun y => decide (x = y) with
            | true =>
              rw [hB] at hct
              have HN := Lib.hid (And.intro hct (And.intro hB hst2))
              clear hct hB hst2
              go_wp2_with (go_at_call 60; refine (HN.out.1 _ (Ext.refl _)).mono ?_; rintro e w2 ⟨rfl, hx3⟩)
              rw [← hpa]
              go_roundw
              case rel =>
                refine ⟨k + 1, vi (by omega), hltk, ?_, Lib.hid fun b off e => ⟨(hap.out b off e).1, ?_⟩, Lib.hid (Nat.le_trans hsz.out hx3.size), hxi.trans hx3⟩
                · rw [HN.out.2.2]; unfold addV; rw [if_pos HN.out.2.1]; exact own_ext howni hx3
                · rw [hx3.block b (Nat.lt_of_lt_of_le (hbk.out b off e).2 hsz.out)]; exact (hap.out b off e).2
              case measure => simp [intOf]; omega
            | false =>
              rw [hB] at hct
              have HN := Lib.hid (And.intro hct (And.intro hB hst2))
              clear hct hB hst2
              go_upto_region 12 with (go_at_call 60; refine (HN.out.1 _ (Ext.refl _)).mono ?_; rintro e w2 ⟨rfl, hx3⟩)
              have HO2 := Lib.hid (own_ext howni (hx3.alloc (.cells #[.string x] 9)))
              have hx4 := (hxi.trans hx3).alloc (.cells #[.string x] 9)
              have hx5 := hx3.alloc (.cells #[.string x] 9)
              go_wp2_with (at_builtin; refine wpList_append_apart rfl _ _ 23 rfl wa.heap.size 9 i0 (.string ⟨#[]⟩) 1 16 Try.underlying23 HT.out.1 HT.out.2.1 HT.out.2.2.1 HT.out.2.2.2 rfl (by decide) _ _ _ rfl HO2.out ⟨w2.heap.size, 0, none⟩ 1 1 [.string x] rfl rfl (cell_one_new _ _ _) (by simp [Value.oneCell']) (by unfold maxLen; omega) (by omega) hx4.size ?_; intro v3 w3 hown3 hgrow3 hap3; have HG := Lib.hid (And.intro hown3 (And.intro hgrow3 hap3)); clear hown3 hgrow3 hap3)
              rw [← hpa]
              go_roundw
              case rel =>
                refine ⟨k + 1, vi (by omega), hltk, ?_, Lib.hid fun b off e => ?_, Lib.hid (Nat.le_trans hsz.out (Nat.le_trans hx5.size HG.out.2.1.size)), ?_⟩
                · rw [HN.out.2.2]; unfold addV; rw [if_neg (by rw [HN.out.2.1]; decide)]
                  have := HG.out.1
                  simpa using this
                · have hlt1 : b < wr.heap.size := Nat.lt_of_lt_of_le (hbk.out b off e).2 hsz.out
                  have hne := (hap.out b off e).1
                  refine ⟨fun h => ?_, ?_⟩
                  · rcases HG.out.2.2 with q | q
                    · exact hne (q ▸ h)
                    · rw [q] at h
                      have := hx5.size
                      cases h
                      omega
                  · rw [HG.out.2.1.block b (Nat.lt_of_lt_of_le hlt1 hx5.size) (fun q => hne q.symm), hx5.block b hlt1]
                    exact (hap.out b off e).2
                · exact hx4.grown HG.out.2.1 hx4.size (fun q hq => (World.ownsRow.lt HO2.out q hq).1)
              case measure => simp [intOf]; omega
          · have hkl : k = vs.length := by omega
            subst hkl
            rw [List.take_length] at howni
            have HF := Lib.hid howni
            clear howni
            go_wp2
            go_roundw
            case rel =>
              exact ⟨j + 1, vi (by omega), hlt, Lib.hid HC.out.2.1, by rw [HC.out.2.2.1]; exact HF.out, hxi⟩
            case measure => simp [intOf]; omega
    · have hjl : j = parts.length := by omega
      subst hjl
      rw [List.take_length] at hown
      obtain ⟨p, c, hop⟩ := sliceOf_own hown
      have HF := Lib.hid (And.intro hown hop)
      clear hown hop
      go_wp2
      go_ret2
      refine .inr ⟨firstErr_miss hb.out, p, c, by rw [← HF.out.2]; rfl, ?_, hxb.trans hx⟩
      have := HF.out.1
      rw [HF.out.2] at this
      exact reads_own this
end Go.Proofs.Ytmobdmljbbckiaa
