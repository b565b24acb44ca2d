/- merge.pairs: the pairs of some sides, rising. -/
import Derived.Test.YtmobdmljbbckiaaCkMap
import Derived.Test.YtmobdmljbbckiaaSideAt
namespace Go.Proofs.Ytmobdmljbbckiaa
open Go.RowKit Go.Maps
set_option maxHeartbeats 3200000
set_option maxRecDepth 100000

def keysTo (ess : List (List (Ck × Value))) (j : Nat) (k : Ck) : Prop := ∃ es ∈ ess.take j, k ∈ es.map (·.1)
theorem mergePairs_any (v : Value) (bs : List Nat) (ess : List (List (Ck × Value))) (w : World) (hv : Reads (fun b : Nat => [Value.map (some b)]) w v bs) (hl : bs.length = ess.length)
    (hm : ∀ j (h : j < bs.length) (h' : j < ess.length), MapAt Try.prog 54 w bs[j] (mp ess[j])) (hk : ∀ es ∈ ess, ∀ e ∈ es, CkKey e.1) (hn : (ess.flatten).length ≤ 10000) :
    Calls Try.prog 46 #[v] w fun e w' => ∃ p c, ∃ K : List Ck, e = .returned (.slice p K.length c) ∧ ((∀ k, k ∈ K ↔ ∃ es ∈ ess, k ∈ es.map (·.1)) ∧ Rises cmpCk K) ∧ w'.ownsRow w.heap.size 54 6 (.slice p K.length c) K.length (K.flatMap encCk) ∧ Ext w w' := by
  have hmm := @run_makeMap Try.prog
  obtain ⟨a, cap, rfl, hcap, hmax, hcells⟩ := hv
  unfold maxLen at hmax
  have HK := Lib.hid (And.intro hm (And.intro hk (And.intro hl hn)))
  clear hk hm hl hn
  go_enter Try.func46, Try.ntmps46
  go_wp2
  have hm0 : MapAt Try.prog 54 (w.alloc (.map #[] 0)) w.heap.size (boolsCk []) := MapAt.made _ _ w
  have hxm := (Ext.refl w).alloc (.map #[] 0)
  generalize hwm : w.alloc (.map #[] 0) = wm at hm0 hxm ⊢
  obtain ⟨mb, hmb⟩ : ∃ mb, mb = w.heap.size := ⟨_, rfl⟩
  rw [← hmb]
  have hm1 : MapAt Try.prog 54 wm mb (boolsCk []) := by rw [hmb]; exact hm0
  have HB := Lib.hid hmb
  clear hwm hmb hm0
  go_loopw [10] (fun jv wr => ∃ j : Nat, jv = .int .i64 j ∧ j ≤ bs.length ∧ (∃ T : List Ck, MapAt Try.prog 54 wr mb (boolsCk T) ∧ ∀ k, k ∈ T ↔ keysTo ess j k) ∧ Ext w wr) (fun jv _ => bs.length - (intOf jv).toNat)
  case atStart => exact ⟨0, rfl, Nat.zero_le _, ⟨[], hm1, fun k => by simp [keysTo]⟩, hxm⟩
  case round =>
    obtain ⟨j, rfl, hj, ⟨T, hT, hTk⟩, hx⟩ := hrel
    clear hm1 hxm
    by_cases hlt : j < bs.length
    · obtain ⟨b0, off, rfl, hc⟩ := hcells (fun h => by rw [h] at hlt; exact absurd hlt (Nat.not_lt_zero _))
      have hle : j < ess.length := by rw [← HK.out.2.2.1]; exact hlt
      have c0 := hx.cell (Reads.one_at (enc1 := fun b : Nat => Value.map (some b)) hc hlt)
      have hmj0 := HK.out.1 j hlt hle
      have hkj := HK.out.2.1 ess[j] (List.getElem_mem hle)
      have hst : ∀ k, keysTo ess (j + 1) k ↔ keysTo ess j k ∨ k ∈ ess[j].map (·.1) := fun k => by
        unfold keysTo
        rw [List.take_succ_eq_append_getElem hle]
        constructor
        · rintro ⟨es, hes, hke⟩
          rcases List.mem_append.1 hes with h | h
          · exact .inl ⟨es, h, hke⟩
          · have : es = ess[j] := by simpa using h
            subst this; exact .inr hke
        · rintro (⟨es, hes, hke⟩ | hke)
          · exact ⟨es, List.mem_append_left _ hes, hke⟩
          · exact ⟨_, List.mem_append_right _ (by simp), hke⟩
      have hne : bs[j] ≠ mb := fun e => by
        have := hmj0.lt
        rw [HB.out] at e
        omega
      have hmj := hmj0.ext hx
      have HS := Lib.hid (And.intro hst (And.intro hkj (And.intro hTk hne)))
      clear hcells hc hst hkj hTk hmj0
      generalize bs[j] = bj at c0 hmj HS
      generalize ess[j] = es at hmj HS
      obtain ⟨w1, hrun1, hrg0, hx1, hg1, hs1⟩ := hmj.range (t := 100) Try.underlying100
      have hT1 := hT.ext hx1
      have hrb : w.heap.size ≤ wr.heap.size := hx.size
      have hrne : wr.heap.size ≠ mb := Nat.ne_of_gt hT.lt
      generalize wr.heap.size = r at hrg0 hrun1 hrb hrne
      have HR := Lib.hid (And.intro hrg0 (And.intro hT1 (And.intro (hx.trans hx1) (And.intro hrb hrne))))
      clear hrg0 hT1 hx1 hg1 hs1 hrb hrne hmj hT
      go_wp2
      go_loopw [6] (fun _ wi => ∃ (done : List (Value × Value)) (T' : List Ck), MapRange Try.prog 54 wi bj r (mp es) done ∧ MapAt Try.prog 54 wi mb (boolsCk T') ∧ Hid (∀ k, k ∈ T' ↔ k ∈ T ∨ vCk k ∈ done.map (·.1)) ∧ Ext w wi) (fun _ wi => wi.rangeLeft bj r)
      case atStart => exact ⟨[], T, HR.out.1, HR.out.2.1, Lib.hid (by simp), HR.out.2.2.1⟩
      case round =>
        obtain ⟨done, T', hrg, hT', hTk', hxi⟩ := hrel
        clear hrun1 c0
        rcases hrg.nextAll with ⟨hperm, hnx⟩ | ⟨key, vv, w2, hin, _, hnx, hrg2, hle2, hg2, hs2, hen⟩
        · have HD := Lib.hid (And.intro hT' hperm)
          clear hT' hperm hrg
          go_wp2
          go_roundw
          case rel =>
            refine ⟨j + 1, vi (by omega), hlt, ⟨T', HD.out.1, fun k => ?_⟩, hxi⟩
            rw [HS.out.1 k, hTk'.out k, HS.out.2.2.1 k]
            refine or_congr Iff.rfl ?_
            have hp := (HD.out.2.map (·.1)).mem_iff (a := vCk k)
            rw [hp, mp_keys]
            constructor
            · intro h
              obtain ⟨e, he, hek⟩ := List.mem_map.1 h
              exact List.mem_map.2 ⟨e, he, vCk_inj hek⟩
            · intro h
              obtain ⟨e, he, rfl⟩ := List.mem_map.1 h
              exact List.mem_map.2 ⟨e, he, rfl⟩
          case measure => simp [intOf]; omega
        · obtain ⟨e, he, hev⟩ := List.mem_map.1 hin
          obtain rfl : vCk e.1 = key := congrArg Prod.fst hev
          have hck := HS.out.2.1 e he
          clear hin hev he
          generalize e.1 = k at hnx hrg2 hen hck
          obtain ⟨⟨k1, s1, g1⟩, ⟨k2, s2, g2⟩⟩ := k
          have hx2 : Ext w w2 := Below.grown hxi hg2 hxi.size (fun q e => by cases e; exact HR.out.2.2.2.1)
          have hT2 : MapAt Try.prog 54 w2 mb (boolsCk T') := hT'.same (hg2.block mb hT'.lt (fun e => HR.out.2.2.2.2 (by cases e; rfl)))
          have hxa := (Ext.refl w2).alloc (.cells #[.int .i64 k1, .string s1, .string g1, .int .i64 k2, .string s2, .string g2] 54)
          obtain ⟨w3, hrun3, hT3, ht3⟩ := addCk_put (hT2.ext hxa) _ hck
          have hbm : bj ≠ mb := HS.out.2.2.2
          have hrg3 : MapRange Try.prog 54 w3 bj r (mp es) (done ++ [(vCk ⟨⟨k1, s1, g1⟩, ⟨k2, s2, g2⟩⟩, vv)]) := (hrg2.ext hxa).same (ht3.other bj hbm) (ht3.other r HR.out.2.2.2.2)
          have hle3 : w3.rangeLeft bj r < wr.rangeLeft bj r := by
            rw [rangeLeft_same (ht3.other bj hbm) (ht3.other r HR.out.2.2.2.2), rangeLeft_same (hxa.block bj hrg2.at.lt) (hxa.block r hrg2.lt)]
            exact hle2
          have hx3 : Ext w w3 := ht3.below (by rw [HB.out]; exact Nat.le_refl _) (hx2.trans hxa)
          dsimp only [vCk] at hnx hen hrun3
          have HF := Lib.hid (And.intro hT3 (And.intro hrg3 (And.intro hle3 hx3)))
          clear hT3 hrg3 hle3 hx3 hT2 hT' hrg hrg2 hle2 hg2 hs2 ht3 hxa hck hx2 hbm
          go_wp2
          go_roundw
          case rel =>
            refine ⟨_, _, HF.out.2.1, HF.out.1, Lib.hid fun k => ?_, HF.out.2.2.2⟩
            rw [mem_addCk, hTk'.out k, List.map_append, List.mem_append, or_assoc]
            refine or_congr Iff.rfl (or_congr Iff.rfl ?_)
            constructor
            · rintro rfl; simp
            · intro h
              exact vCk_inj (by simpa using h)
          case measure => exact HF.out.2.2.1
    · have hjl : j = bs.length := by omega
      subst hjl
      have hall : ∀ k, k ∈ T ↔ ∃ es ∈ ess, k ∈ es.map (·.1) := fun k => by
        rw [hTk k]
        unfold keysTo
        rw [HK.out.2.2.1, List.take_length]
      have hTl : T.length ≤ 10000 := by
        refine Nat.le_trans (nodup_le T (ess.flatten.map (·.1)) (bools_nodup hT) fun k hk => ?_) (by rw [List.length_map]; exact HK.out.2.2.2)
        obtain ⟨es, hes, hke⟩ := (hall k).1 hk
        obtain ⟨e, he, rfl⟩ := List.mem_map.1 hke
        exact List.mem_map.2 ⟨e, List.mem_flatten.2 ⟨es, hes, he⟩, rfl⟩
      have hk2 := fun W => keysCk_any (some mb) W
      have hso := fun W (hW : Ext wr W) => sortedKeysCk_any W.heap.size mb T (Nat.le_trans hTl (by decide)) (W.alloc (.cells #[.map (some mb)] 153)) (by rw [World.cell?_alloc_at _ _ _ _ rfl]; rfl) ((hT.ext hW).ext ((Ext.refl W).alloc _))
      have HH := Lib.hid (And.intro hk2 (And.intro hso hall))
      clear hk2 hso hcells hall hTl hTk hT
      have hx0 := Ext.refl wr
      go_wp2_with (first | (go_at_call 85; refine (HH.out.1 _).mono ?_; rintro e w2 ⟨rfl, rfl⟩) | (go_at_call 84; refine (HH.out.2.1 _ hx0).mono ?_; rintro e w3 ⟨p, c, K, rfl, hK, hoK, hx3⟩; have HF := Lib.hid (And.intro hK hoK); clear hK hoK))
      go_ret
      exact ⟨p, c, K, rfl, ⟨fun k => (HF.out.1.1 k).trans (HH.out.2.2 k), HF.out.1.2⟩, own_mono HF.out.2 (Nat.le_trans hx.size (by simp)), (hx.alloc _).trans hx3⟩
end Go.Proofs.Ytmobdmljbbckiaa
