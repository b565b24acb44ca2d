/- set.Terms: a map of all terms, its keys sorted. -/
import Derived.Test.YtmobdmljbbckiaaDoorSortTm
import Derived.Test.YtmobdmljbbckiaaDoorMapPut
import Derived.Test.YtmobdmljbbckiaaDoorLayerApply
namespace Go.Proofs.YtmobdmljbbckiaaDoor
open Go.RowKit Go.Maps
set_option maxHeartbeats 3200000
set_option maxRecDepth 100000

def addKey (l : List Tm) (t : Tm) : List Tm := if t ∈ l then l else l ++ [t]
def addTr (l : List Tm) (t : Tr) : List Tm := addKey (addKey (addKey l t.s) t.p) t.o
def termsOf (l : List Tr) : List Tm := l.foldl addTr []
def boolsTm (l : List Tm) : List (Value × Value) := l.map fun t => (vTm t, .bool true)
def TrKey (t : Tr) : Prop := TmKey t.s ∧ TmKey t.p ∧ TmKey t.o
theorem vTm_inj' {a b : Tm} (h : vTm a = vTm b) : a = b := by
  cases a; cases b
  simp [vTm] at h
  simp [h]
def unTm : Value → Tm
  | .agg c => ⟨match c[0]? with | some (Value.int _ n) => n | _ => 0, match c[1]? with | some (Value.string s) => s | _ => ⟨#[]⟩, match c[2]? with | some (Value.string s) => s | _ => ⟨#[]⟩⟩
  | _ => ⟨0, ⟨#[]⟩, ⟨#[]⟩⟩
theorem unTm_v (t : Tm) : unTm (vTm t) = t := by cases t; rfl
theorem perm_of_v {a b : List Tm} (h : (a.map vTm).Perm (b.map vTm)) : a.Perm b := by
  have h2 := h.map unTm
  rw [List.map_map, List.map_map] at h2
  have e : unTm ∘ vTm = id := funext unTm_v
  rw [e, List.map_id, List.map_id] at h2
  exact h2
theorem addKey_le (l : List Tm) (t : Tm) : (addKey l t).length ≤ l.length + 1 := by unfold addKey; split <;> simp
theorem termsOf_le (l : List Tr) : (termsOf l).length ≤ 3 * l.length := by
  have : ∀ (l : List Tr) (z : List Tm), (l.foldl addTr z).length ≤ z.length + 3 * l.length := by
    intro l
    induction l with
    | nil => simp
    | cons t l ih =>
      intro z
      have h := ih (addTr z t)
      have h1 := addKey_le z t.s
      have h2 := addKey_le (addKey z t.s) t.p
      have h3 := addKey_le (addKey (addKey z t.s) t.p) t.o
      simp only [List.foldl_cons, List.length_cons]
      unfold addTr at h ⊢
      omega
  have h := this l []
  unfold termsOf
  simpa using h
theorem termsOf_snoc (l : List Tr) (t : Tr) : termsOf (l ++ [t]) = addTr (termsOf l) t := by simp [termsOf]
theorem addKey_put {w : World} {b : Nat} {l : List Tm} (h : MapAt Tryd.prog 25 w b (boolsTm l)) (t : Tm) (hk : TmKey t) :
    ∃ w', (Instr.mapUpdate 54 (.map (some b)) (vTm t) (.bool true)).run Tryd.prog w = .ok () w' ∧ MapAt Tryd.prog 25 w' b (boolsTm (addKey l t)) ∧ TurnedAt b w w' := by
  obtain ⟨kl, hkl⟩ := keyTm hk
  unfold addKey
  by_cases hin : t ∈ l
  · rw [if_pos hin]
    exact h.put_same (t := 54) Tryd.underlying54 keysTm hkl (List.mem_map.2 ⟨t, hin, rfl⟩)
  · rw [if_neg hin]
    obtain ⟨w', h1, h2, h3⟩ := h.put_miss (t := 54) Tryd.underlying54 keysTm hkl (fun x hx e => by
      obtain ⟨u, hu, rfl⟩ := List.mem_map.1 hx
      exact hin (by rw [← vTm_inj' e]; exact hu)) (value := .bool true)
    exact ⟨w', h1, by simpa [boolsTm] using h2, h3⟩

/-- slices.SortedFunc over maps.Keys -/
theorem sortedKeys_any (Bm b : Nat) (l : List Tm) (hN : l.length ≤ 100000) (w : World) (hm : w.cell? ⟨Bm, 0, none⟩ = some (.map (some b))) (hown : MapAt Tryd.prog 25 w b (boolsTm l)) :
    Calls Tryd.prog 19 #[.func (.func 36) #[] #[.pointer (some ⟨Bm, 0, none⟩)], .func (.func 21) #[] #[]] w fun e W' =>
      ∃ p c, ∃ ss : List Tm, e = .returned (.slice p l.length c) ∧ ss.Perm l ∧ W'.ownsRow w.heap.size 25 3 (.slice p l.length c) ss.length (ss.flatMap encTm) ∧ Ext w W' := by
  have hc := collectKeys_any Bm b (boolsTm l) (fun x hx => by obtain ⟨u, _, rfl⟩ := List.mem_map.1 hx; exact ⟨u, rfl⟩) (by simpa [boolsTm] using hN) w hm hown
  have hcc : Calls Tryd.prog 34 #[.func (.func 36) #[] #[.pointer (some ⟨Bm, 0, none⟩)]] w fun e W' => ∃ p c, ∃ ss : List Tm, e = .returned (.slice p l.length c) ∧ ss.Perm l ∧ W'.ownsRow w.heap.size 25 3 (.slice p l.length c) ss.length (ss.flatMap encTm) ∧ Ext w W' :=
    hc.mono fun e W' ⟨v, ss, h1, h2, h3, h4⟩ => by
      have hp : ss.Perm l := by
        have e1 : (boolsTm l).map (·.1) = l.map vTm := by simp [boolsTm]
        rw [e1] at h2
        exact perm_of_v h2
      obtain ⟨p, c, rfl⟩ := sliceOf_own h3
      rw [hp.length_eq] at h1
      rw [hp.length_eq] at h3
      exact ⟨p, c, ss, h1, hp, by rw [hp.length_eq]; exact h3, h4⟩
  have hso : ∀ p c (ss : List Tm) W, ss.Perm l → W.ownsRow w.heap.size 25 3 (.slice p l.length c) ss.length (ss.flatMap encTm) → Ext w W → Calls Tryd.prog 35 #[.slice p l.length c, .func (.func 21) #[] #[]] W fun e W' => e = .returned (.tuple #[]) ∧ ((sortL cmpTm ss).Perm l ∧ W'.ownsRow w.heap.size 25 3 (.slice p l.length c) (sortL cmpTm ss).length ((sortL cmpTm ss).flatMap encTm)) ∧ Ext w W' := fun p c ss W hp ho hx =>
    (sortFunc_tm _ ss W w.heap.size ho hx.size (by rw [hp.length_eq]; exact hN)).mono fun e W' ⟨h1, h2, h3⟩ => ⟨h1, ⟨(sortL_perm cmpTm ss).trans hp, by rw [(sortL_perm cmpTm ss).length_eq]; exact h2⟩, Below.trans hx h3⟩
  have HH := Lib.hid (And.intro hcc hso)
  clear hc hcc hso hown
  go_enter Tryd.func19, Tryd.ntmps19
  go_wp2_with (first | (go_at_call 34; refine HH.out.1.mono ?_; rintro e w1 ⟨p, c, ss, rfl, hp, ho1, hx1⟩; have HP := Lib.hid (And.intro hp ho1); clear hp ho1) | (go_at_call 35; refine (HH.out.2 _ _ _ _ HP.out.1 HP.out.2 hx1).mono ?_; rintro e w2 ⟨rfl, hf, hx2⟩; have HF := Lib.hid hf; clear hf))
  go_ret
  exact ⟨_, _, _, rfl, HF.out.1, HF.out.2, hx2⟩

theorem setTerms_ok (v : Value) (l : List Tr) (w : World) (hl : Reads encTr w v l) (hok : setErr l = none) (hk : ∀ t ∈ l, TrKey t) :
    Calls Tryd.prog 8 #[v] w fun e w' => ∃ p c, e = .returned (.tuple #[.slice p (termsOf l).length c, .nilIface]) ∧ Ext w w' := by
  have hright := fun W (hW : Ext w W) => right_one v l W (hl.ext hW) none hok
  dsimp only [errV] at hright
  have hlen : l.length ≤ 200 := ((setErr_none_iff l).1 hok).1
  have hmm := @run_makeMap Tryd.prog
  obtain ⟨a, cap, rfl, hcap, hmax, hcells⟩ := hl
  unfold maxLen at hmax
  have HR := Lib.hid (And.intro hright hk)
  clear hright hk hok
  have hx0 := Ext.refl w
  go_enter Tryd.func8, Tryd.ntmps8
  go_upto_region 4 with (go_at_call 17; refine (HR.out.1 _ hx0).mono ?_; rintro e w1 ⟨rfl, hx1⟩)
  go_wp2
  have hm0 : MapAt Tryd.prog 25 (w1.alloc (.map #[] 0)) w1.heap.size (boolsTm (termsOf (l.take 0))) := MapAt.made _ _ w1
  have hxm := hx1.alloc (.map #[] 0)
  generalize hwm : w1.alloc (.map #[] 0) = wm at hm0 hxm ⊢
  have hmb : w.heap.size ≤ w1.heap.size := hx1.size
  generalize w1.heap.size = mb at hm0 hmb ⊢
  clear hwm hx1
  go_loopw [17] (fun jv wr => ∃ j : Nat, jv = .int .i64 j ∧ j ≤ l.length ∧ MapAt Tryd.prog 25 wr mb (boolsTm (termsOf (l.take j))) ∧ Ext w wr) (fun jv _ => l.length - (intOf jv).toNat)
  case atStart => exact ⟨0, rfl, Nat.zero_le _, hm0, hxm⟩
  case round =>
    obtain ⟨j, rfl, hj, hmap, hx⟩ := hrel
    clear hm0 hxm
    by_cases hlt : j < l.length
    · obtain ⟨b, off, rfl, hc⟩ := hcells (fun h => by rw [h] at hlt; exact absurd hlt (Nat.not_lt_zero _))
      obtain ⟨c0, c1, c2, c3, c4, c5, c6, c7, c8⟩ := Tr.cells hc hlt
      have d0 := hx.cell c0
      have d1 := hx.cell c1
      have d2 := hx.cell c2
      have d3 := hx.cell c3
      have d4 := hx.cell c4
      have d5 := hx.cell c5
      have d6 := hx.cell c6
      have d7 := hx.cell c7
      have d8 := hx.cell c8
      have hkey := HR.out.2 l[j] (List.getElem_mem hlt)
      have hst : termsOf (l.take (j + 1)) = addTr (termsOf (l.take j)) l[j] := by rw [List.take_succ_eq_append_getElem hlt, termsOf_snoc]
      have HS := Lib.hid hst
      clear c0 c1 c2 c3 c4 c5 c6 c7 c8 hc hcells hst
      generalize l[j] = t at d0 d1 d2 d3 d4 d5 d6 d7 d8 hkey HS
      generalize termsOf (l.take j) = T at hmap HS
      obtain ⟨⟨k1, s1, l1⟩, ⟨k2, s2, l2⟩, ⟨k3, s3, l3⟩⟩ := t
      obtain ⟨y1, y2, y3⟩ := hkey
      dsimp only at *
      have HM := Lib.hid (And.intro hmap (And.intro y1 (And.intro y2 y3)))
      clear hmap y1 y2 y3
      go_upto_region 8 with fail
      have hxa := hx.alloc (.cells #[.int .i64 k1, .string s1, .string l1, .int .i64 k2, .string s2, .string l2, .int .i64 k3, .string s3, .string l3] 28)
      have hxb := (Ext.refl wr).alloc (.cells #[.int .i64 k1, .string s1, .string l1, .int .i64 k2, .string s2, .string l2, .int .i64 k3, .string s3, .string l3] 28)
      have hba := alloc_heap_new wr (.cells #[.int .i64 k1, .string s1, .string l1, .int .i64 k2, .string s2, .string l2, .int .i64 k3, .string s3, .string l3] 28)
      have hne : wr.heap.size ≠ mb := Nat.ne_of_gt HM.out.1.lt
      generalize hwa : World.alloc wr _ = wa at hxa hxb hba ⊢
      generalize wr.heap.size = tb at hba hne ⊢
      clear hwa d0 d1 d2 d3 d4 d5 d6 d7 d8
      have A := InC.cells (w0 := wa) (C := fun W => W.heap[tb]? = some (.cells #[.int .i64 k1, .string s1, .string l1, .int .i64 k2, .string s2, .string l2, .int .i64 k3, .string s3, .string l3] 28)) hba (fun _ h => h)
      refine wp_region_class (fun W => W.heap[tb]? = some (.cells #[.int .i64 k1, .string s1, .string l1, .int .i64 k2, .string s2, .string l2, .int .i64 k3, .string s3, .string l3] 28)) [0, 1, 2, 3, 4, 5, 6, 7, 8] [9, 10, 11] (by kernel_rfl) (by kernel_rfl) (fun _ _ h k => heap_ext k h) (hba) ?_
      simp only [List.filterMap_cons, List.filterMap_nil, List.getElem?_cons_succ, List.getElem?_cons_zero]
      repeat (first | ((with_reducible refine wpFr_yes ?hw ?_); (case hw => rfl); intro K hK; go_simp; (first | (refine hK _ ?_; clear hK K) | (apply Exists.intro; refine ⟨fun x => ?_, hK _ ?_⟩; (fail); clear hK K))) | ((with_reducible refine wpFr_not ?hw ?_); (case hw => rfl); intro K hK; go_simp; (refine hK _ ?_; clear hK K)))
      refine wpFr_nil ?_
      clear A
      refine wpTl_step fun W1 K hW1 hK => ?_
      obtain ⟨V1, hrun1, hm1, ht1⟩ := addKey_put ((HM.out.1.ext hxb).ext hW1) _ HM.out.2.1
      dsimp only [vTm] at hrun1
      go_simp
      have hb1 := (ht1.other tb hne).trans (heap_ext hW1 hba)
      have hx1 := ht1.below hmb (hxa.trans hW1)
      refine ⟨hb1, hK _ _ ?_⟩
      clear hK K hrun1 ht1 hba hW1 hxa hxb
      refine wpTl_step fun W2 K hW2 hK => ?_
      obtain ⟨V2, hrun2, hm2, ht2⟩ := addKey_put (hm1.ext hW2) _ HM.out.2.2.1
      dsimp only [vTm] at hrun2
      go_simp
      have hb2 := (ht2.other tb hne).trans (heap_ext hW2 hb1)
      have hx2 := ht2.below hmb (Ext.trans hx1 hW2)
      refine ⟨hb2, hK _ _ ?_⟩
      clear hK K hrun2 ht2 hb1 hW2 hx1 hm1
      refine wpTl_step fun W3 K hW3 hK => ?_
      obtain ⟨V3, hrun3, hm3, ht3⟩ := addKey_put (hm2.ext hW3) _ HM.out.2.2.2
      dsimp only [vTm] at hrun3
      go_simp
      have hb3 := (ht3.other tb hne).trans (heap_ext hW3 hb2)
      have hx3 := ht3.below hmb (Ext.trans hx2 hW3)
      refine ⟨hb3, hK _ _ ?_⟩
      clear hK K hrun3 ht3 hb2 hW3 hx2 hm2
      refine wpTl_nil fun x hxx => ?_
      have HF := Lib.hid (And.intro (hm3.ext hxx) (Ext.trans hx3 hxx))
      clear hm3 hx3 hxx hb3
      go_wp2
      go_roundw
      case rel => exact ⟨j + 1, vi (by omega), hlt, by rw [HS.out]; exact HF.out.1, HF.out.2⟩
      case measure => simp [intOf]; omega
    · have hjl : j = l.length := by omega
      subst hjl
      rw [List.take_length] at hmap
      have HM := Lib.hid hmap
      clear hmap hcells
      have hk2 := fun W => keys_any (some mb) W
      have hso := fun W (hW : Ext wr W) => sortedKeys_any W.heap.size mb (termsOf l) (Nat.le_trans (termsOf_le l) (by omega)) (W.alloc (.cells #[.map (some mb)] 54)) (by rw [World.cell?_alloc_at _ _ _ _ rfl]; rfl) ((HM.out.ext hW).ext ((Ext.refl W).alloc _))
      have HH := Lib.hid (And.intro hk2 hso)
      clear hk2 hso
      have hx0 := Ext.refl wr
      go_wp2_with (first | (go_at_call 20; refine (HH.out.1 _).mono ?_; rintro e w2 ⟨rfl, rfl⟩) | (go_at_call 19; refine (HH.out.2 _ hx0).mono ?_; rintro e w3 ⟨p, c, ss, rfl, _, _, hx3⟩))
      go_ret2
      exact ⟨_, _, rfl, (hx.alloc _).trans hx3⟩
end Go.Proofs.YtmobdmljbbckiaaDoor
