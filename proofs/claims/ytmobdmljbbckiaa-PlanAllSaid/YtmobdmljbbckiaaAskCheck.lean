/- ask.Check. -/
import Derived.Test.YtmobdmljbbckiaaAskVars
import Derived.Test.YtmobdmljbbckiaaFuncsStr
import Derived.Test.YtmobdmljbbckiaaOwnSet
namespace Go.Proofs.Ytmobdmljbbckiaa
open Go.RowKit
set_option maxHeartbeats 1600000
set_option maxRecDepth 100000

/-- a variable that is not among some -/
theorem check1_any (s : ByteArray) (b : Nat) (v : Value) (l : List ByteArray) (W : World) (hb : W.cell? ⟨b, 0, none⟩ = some v) (hl : Reads encS W v l) :
    Calls Try.prog 63 #[.string s, .pointer (some ⟨b, 0, none⟩)] W fun e w' => e = .returned (.bool (!(l.any fun x => decide (s = x)))) ∧ Ext W w' := by
  have hc := contains_str v l s W hl
  generalize (l.any fun x => decide (s = x)) = r at hc ⊢
  obtain ⟨a, c, rfl⟩ := hl.slice
  have HC := Lib.hid hc
  clear hc hl
  go_enter Try.func63, Try.ntmps63
  go_wp2_with (go_at_call 60; refine HC.out.mono ?_; rintro e w1 ⟨rfl, hx1⟩)
  go_ret
  exact ⟨rfl, hx1⟩
theorem reads_take {α : Type} {enc : α → List Value} {w : World} {a : Option Addr} {cap : Nat} {l : List α} (h : Reads enc w (.slice a l.length cap) l) (n : Nat) (hn : n ≤ l.length) : Reads enc w (.slice a n cap) (l.take n) := by
  obtain ⟨_, cap', hv, h1, h2, h3⟩ := h
  cases hv
  have e : (l.take n).length = n := by rw [List.length_take]; omega
  refine ⟨a, cap, by rw [e], by omega, h2, fun hne => ?_⟩
  obtain ⟨b, off, ha, hc⟩ := h3 (fun q => hne (by rw [q]; simp))
  refine ⟨b, off, ha, fun t u ht => hc t u ?_⟩
  have e2 : l.flatMap enc = (l.take n).flatMap enc ++ (l.drop n).flatMap enc := by rw [← List.flatMap_append, List.take_append_drop]
  rw [e2, List.getElem?_append_left (List.getElem?_eq_some_iff.1 ht).1]
  exact ht

theorem askCheck_any (vv vp : Value) (q : Qu) (w : World) (hp : Reads encPat w vp q.parts) (hv : Reads encS w vv q.vars) :
    Calls Try.prog 23 #[vQu vv vp q] w fun e w' => e = .returned (errV (askErr q)) ∧ Ext w w' := by
  have hE : askErr q = if 6 < q.parts.length then some 4 else if q.parts.length = 0 then some 5 else
    (partsErr q.parts).or (if 8 < (varsAll q.parts).length then some 4 else if q.vars.length = 0 ∨ (q.vars.any fun s => !((varsAll q.parts).any fun x => decide (s = x))) = true then some 5 else
    (firstErr (fun i => if ((q.vars.take i).any fun x => decide (q.vars.getD i noText = x)) = true then some 7 else none) q.vars.length).or
    (if q.order.size ≠ 0 ∧ (q.vars.any fun x => decide (q.order = x)) = false then some 5 else if q.down = true ∧ q.order.size = 0 then some 3 else if q.limit < -1 ∨ 500 < q.limit then some 1 else none)) := rfl
  generalize askErr q = E at hE ⊢
  have hlenp : q.parts.length ≤ 9223372036854775807 := by
    obtain ⟨_, c, _, h1, h2, _⟩ := hp
    unfold maxLen at h2; omega
  obtain ⟨av, cv, rfl⟩ := hv.slice
  obtain ⟨ap, cp, rfl⟩ := hp.slice
  have hxb := (Ext.refl w).alloc (.cells #[.slice av q.vars.length cv, .slice ap q.parts.length cp, .string q.order, .bool q.down, .bool q.dist, .int .i64 q.limit] 26)
  have hba := alloc_heap_new w (.cells #[.slice av q.vars.length cv, .slice ap q.parts.length cp, .string q.order, .bool q.down, .bool q.dist, .int .i64 q.limit] 26)
  have hav := fun W (hW : Ext w W) (hn : q.parts.length ≤ 6) => askVars_any (.slice av q.vars.length cv) (.slice ap q.parts.length cp) q W (hp.ext hW) (by omega) ⟨_, _, _, rfl⟩
  by_cases h6 : 6 < q.parts.length
  · rw [if_pos h6] at hE
    clear hav hp hv
    obtain ⟨vars, parts, order, down, dist, limit⟩ := q
    dsimp only at *
    have h6' : (parts.length : Int) > 6 := by omega
    have HE := Lib.hid hE
    clear h6 hE
    go_enter Try.func23, Try.ntmps23
    go_upto_region 1 with fail
    generalize hwa : World.alloc w _ = wa at hxb hba ⊢
    have A0 := cells_at hba
    clear hwa
    go_wp2
    go_ret
    exact ⟨by rw [HE.out]; rfl, hxb⟩
  rw [if_neg h6] at hE
  by_cases h0 : q.parts.length = 0
  · rw [if_pos h0] at hE
    clear hav hp hv
    obtain ⟨vars, parts, order, down, dist, limit⟩ := q
    dsimp only at *
    rw [h0] at hxb hba ⊢
    have HE := Lib.hid hE
    clear h6 hE h0 hlenp
    go_enter Try.func23, Try.ntmps23
    go_upto_region 1 with fail
    generalize hwa : World.alloc w _ = wa at hxb hba ⊢
    have A0 := cells_at hba
    clear hwa
    go_wp2
    go_ret
    exact ⟨by rw [HE.out]; rfl, hxb⟩
  rw [if_neg h0] at hE
  have hav2 := fun W (hW : Ext w W) => hav W hW (by omega)
  have h6' : ¬ (q.parts.length : Int) > 6 := by omega
  have h0' : ¬ (q.parts.length : Int) = 0 := by omega
  clear hav
  cases hP : partsErr q.parts with
  | some n =>
    rw [hP] at hE
    have hav3 : ∀ W, Ext w W → Calls Try.prog 61 #[vQu (.slice av q.vars.length cv) (.slice ap q.parts.length cp) q] W fun e w' => e = .returned (.tuple #[.slice none 0 0, eV n]) ∧ Ext W w' := fun W hW => (hav2 W hW).mono fun e w' h => by
      rcases h with ⟨m, h1, h2, h3⟩ | ⟨h1, _⟩
      · rw [hP] at h1; cases h1; exact ⟨h2, h3⟩
      · rw [hP] at h1; cases h1
    clear hav2 hp hv
    obtain ⟨vars, parts, order, down, dist, limit⟩ := q
    dsimp only at *
    have HE := Lib.hid (And.intro hE hav3)
    clear h6 hE hav3 hP h0
    go_enter Try.func23, Try.ntmps23
    go_upto_region 1 with fail
    generalize hwa : World.alloc w _ = wa at hxb hba ⊢
    have A0 := cells_at hba
    clear hwa
    go_wp2_with (go_at_call 61; refine (HE.out.2 _ hxb).mono ?_; rintro e w1 ⟨rfl, hx1⟩)
    go_ret
    exact ⟨by rw [HE.out.1]; rfl, (hxb.trans hx1).alloc _⟩
  | none =>
    rw [hP] at hE
    have hav3 : ∀ W, Ext w W → Calls Try.prog 61 #[vQu (.slice av q.vars.length cv) (.slice ap q.parts.length cp) q] W fun e w' => ∃ p c, e = .returned (.tuple #[.slice p (varsAll q.parts).length c, .nilIface]) ∧ Reads encS w' (.slice p (varsAll q.parts).length c) (varsAll q.parts) ∧ Ext W w' := fun W hW => (hav2 W hW).mono fun e w' h => by
      rcases h with ⟨m, h1, h2, h3⟩ | ⟨h1, h2⟩
      · rw [hP] at h1; cases h1
      · exact h2
    clear hav2 hp hP h6 h0
    obtain ⟨vars, parts, order, down, dist, limit⟩ := q
    dsimp only at *
    generalize varsAll parts = A at hE hav3
    have hE2 : E = if 8 < A.length then some 4 else if vars.length = 0 ∨ (vars.any fun s => !(A.any fun x => decide (s = x))) = true then some 5 else
      (firstErr (fun i => if ((vars.take i).any fun x => decide (vars.getD i noText = x)) = true then some 7 else none) vars.length).or
      (if order.size ≠ 0 ∧ (vars.any fun x => decide (order = x)) = false then some 5 else if down = true ∧ order.size = 0 then some 3 else if limit < -1 ∨ 500 < limit then some 1 else none) := hE
    clear hE
    by_cases h8 : 8 < A.length
    · rw [if_pos h8] at hE2
      have h8' : (A.length : Int) > 8 := by omega
      have HE := Lib.hid (And.intro hE2 hav3)
      clear hE2 hav3 h8 hv
      go_enter Try.func23, Try.ntmps23
      go_upto_region 1 with fail
      generalize hwa : World.alloc w _ = wa at hxb hba ⊢
      have A0 := fun W (hW : Ext wa W) => cells_at (heap_ext hW hba)
      have A1 := A0 _ (Ext.refl _)
      clear hwa
      go_wp2_with (go_at_call 61; refine (HE.out.2 _ hxb).mono ?_; rintro e w1 ⟨p, c, rfl, _, hx1⟩)
      go_ret
      exact ⟨by rw [HE.out.1]; rfl, (hxb.trans hx1).alloc _⟩
    rw [if_neg h8] at hE2
    have h8' : ¬ (A.length : Int) > 8 := by omega
    clear h8
    by_cases hv0 : vars.length = 0
    · rw [if_pos (.inl hv0)] at hE2
      rw [hv0] at hxb hba hav3 ⊢
      have HE := Lib.hid (And.intro hE2 hav3)
      clear hE2 hav3 hv hv0
      go_enter Try.func23, Try.ntmps23
      go_upto_region 1 with fail
      generalize hwa : World.alloc w _ = wa at hxb hba ⊢
      have A0 := fun W (hW : Ext wa W) => cells_at (heap_ext hW hba)
      have A1 := A0 _ (Ext.refl _)
      clear hwa
      go_wp2_with (go_at_call 61; refine (HE.out.2 _ hxb).mono ?_; rintro e w1 ⟨p, c, rfl, _, hx1⟩; have A2 := A0 _ (hx1.alloc (.cells #[.slice p A.length c] 23)))
      go_ret
      exact ⟨by rw [HE.out.1]; rfl, (hxb.trans hx1).alloc _⟩
    have hv0' : ¬ (vars.length : Int) = 0 := by omega
    have hv1 : ((vars.length : Int) == 0) = false := beq_eq_false_iff_ne.2 hv0'
    have hv2 : decide ((vars.length : Int) = 0) = false := decide_eq_false hv0'
    have hv3 : vars ≠ [] := fun e => hv0 (by rw [e]; rfl)
    have hcf : ∀ W p c b3, W.cell? ⟨b3, 0, none⟩ = some (.slice p A.length c) → Reads encS W (.slice p A.length c) A → Ext w W → Calls Try.prog 62 #[.slice av vars.length cv, .func (.func 63) #[] #[.pointer (some ⟨b3, 0, none⟩)]] W fun e w' => e = .returned (.bool (vars.any fun s => !(A.any fun x => decide (s = x)))) ∧ Ext W w' := fun W p c b3 h1 h2 hW =>
      containsFunc_str _ vars W W.heap.size _ _ _ (hv.ext hW) (Nat.le_refl _) ⟨enters_of Try.func63 (by kernel_rfl) rfl, fun V x _ hV => check1_any x b3 _ A V (Ext.cell hV h1) (h2.ext hV)⟩
    cases hany : vars.any fun s => !(A.any fun x => decide (s = x)) with
    | true =>
      rw [if_pos (.inr hany)] at hE2
      rw [hany] at hcf
      have HE := Lib.hid (And.intro hE2 (And.intro hav3 hcf))
      clear hE2 hav3 hv hv0 hcf hany
      go_enter Try.func23, Try.ntmps23
      go_upto_region 1 with fail
      generalize hwa : World.alloc w _ = wa at hxb hba ⊢
      have A0 := fun W (hW : Ext wa W) => cells_at (heap_ext hW hba)
      have A1 := A0 _ (Ext.refl _)
      clear hwa
      go_wp2_with (first | (go_at_call 61; refine (HE.out.2.1 _ hxb).mono ?_; rintro e w1 ⟨p, c, rfl, hr1, hx1⟩; have A2 := A0 _ (hx1.alloc (.cells #[.slice p A.length c] 23)); have HR := Lib.hid hr1; clear hr1) | (go_at_call 62; refine (HE.out.2.2 _ p c w1.heap.size (by rw [World.cell?_alloc_at _ _ _ _ rfl]; rfl) (HR.out.ext ((Ext.refl w1).alloc _)) ((hxb.trans hx1).alloc _)).mono ?_; rintro e w2 ⟨rfl, hx2⟩))
      go_ret
      exact ⟨by rw [HE.out.1]; rfl, ((hxb.trans hx1).alloc _).trans hx2⟩
    | false =>
      rw [if_neg (fun h => h.elim hv0 (fun h => by rw [hany] at h; cases h))] at hE2
      rw [hany] at hcf
      have HE := Lib.hid (And.intro hE2 (And.intro hav3 hcf))
      have hv' := hv
      obtain ⟨_, cv', hval, hcapv, hmaxv, hcells0⟩ := hv'
      cases hval
      unfold maxLen at hmaxv
      have hcells := Lib.hid hcells0
      have HV := Lib.hid hv
      clear hE2 hav3 hv hv0 hcf hany hcells0
      go_enter Try.func23, Try.ntmps23
      go_upto_region 1 with fail
      generalize hwa : World.alloc w _ = wa at hxb hba ⊢
      have A0 := fun W (hW : Ext wa W) => cells_at (heap_ext hW hba)
      have A1 := A0 _ (Ext.refl _)
      clear hwa
      go_upto_region 12 with (first | (go_at_call 61; refine (HE.out.2.1 _ hxb).mono ?_; rintro e w1 ⟨p, c, rfl, hr1, hx1⟩; have A2 := A0 _ (hx1.alloc (.cells #[.slice p A.length c] 23)); have HR := Lib.hid hr1; clear hr1) | (go_at_call 62; refine (HE.out.2.2 _ p c w1.heap.size (by rw [World.cell?_alloc_at _ _ _ _ rfl]; rfl) (HR.out.ext ((Ext.refl w1).alloc _)) ((hxb.trans hx1).alloc _)).mono ?_; rintro e w2 ⟨rfl, hx2⟩; have hxa2 := (hx1.alloc (.cells #[.slice p A.length c] 23)).trans hx2; have A3 := A0 _ hxa2))
      clear A1 A2 h8' h6' h0' hv0' hv1 hv2 hv3
      go_wp2
      clear A3
      go_loopw [48] (fun jv wr => ∃ j : Nat, jv = .int .i64 j ∧ j ≤ vars.length ∧ Hid (∀ i, i < j → (if ((vars.take i).any fun x => decide (vars.getD i noText = x)) = true then some (7 : Int) else none) = none) ∧ Ext wa wr) (fun jv _ => vars.length - (intOf jv).toNat)
      case atStart => exact ⟨0, rfl, Nat.zero_le _, Lib.hid (fun i hi => absurd hi (Nat.not_lt_zero _)), hxa2⟩
      case round =>
        obtain ⟨j, rfl, hj, hb, hx⟩ := hrel
        have A4 := A0 _ hx
        clear A0 hxa2
        by_cases hlt : j < vars.length
        · obtain ⟨b, off, hpa, hcs⟩ := hcells.out (fun h => by rw [h] at hlt; exact absurd hlt (Nat.not_lt_zero _))
          have hcx : wr.cell? ⟨b, off + j, none⟩ = some (.string vars[j]) := (hxb.trans hx).cell (Reads.one_at (enc1 := Value.string) hcs hlt)
          have hgd : vars.getD j noText = vars[j] := getD_at hlt _
          have hct := fun W (hW : Ext wr W) => contains_str _ (vars.take j) vars[j] W ((reads_take HV.out j hj).ext ((hxb.trans hx).trans hW))
          clear hcs
          rw [hpa] at hct
          generalize vars[j] = x at hcx hgd hct
          have k1 : (j : Int) ≤ (cv : Int) := by omega
          have k2 : (j : Int) ≤ (vars.length : Int) := by omega
          cases hB : (vars.take j).any fun y => decide (x = y) with
          | true =>
            rw [hB] at hct
            have hfin := firstErr_hit (f := fun i => if ((vars.take i).any fun x => decide (vars.getD i noText = x)) = true then some (7 : Int) else none) (k := j) (e := 7) (by rw [hgd, if_pos hB]) hb.out (n := vars.length) hlt
            have HN := Lib.hid (And.intro hct hfin)
            clear hct hB hfin hgd
            go_wp2_with (go_at_call 60; refine (HN.out.1 _ (Ext.refl _)).mono ?_; rintro e w3 ⟨rfl, hx3⟩)
            go_ret
            exact ⟨by rw [HE.out.1, HN.out.2]; rfl, hxb.trans (hx.trans hx3)⟩
          | false =>
            rw [hB] at hct
            have hbj : ∀ i, i < j + 1 → (if ((vars.take i).any fun x => decide (vars.getD i noText = x)) = true then some (7 : Int) else none) = none := fun i hi => by
              by_cases e : i = j
              · subst e; rw [hgd, if_neg (by rw [hB]; decide)]
              · exact hb.out i (by omega)
            have HN := Lib.hid (And.intro hct hbj)
            clear hct hB hbj hgd
            go_wp2_with (go_at_call 60; refine (HN.out.1 _ (Ext.refl _)).mono ?_; rintro e w3 ⟨rfl, hx3⟩)
            rw [← hpa]
            go_roundw
            case rel => exact ⟨j + 1, vi (by omega), hlt, Lib.hid HN.out.2, hx.trans hx3⟩
            case measure => simp [intOf]; omega
        · have hjl : j = vars.length := by omega
          subst hjl
          have hE3 := HE.out.1
          rw [firstErr_miss hb.out] at hE3
          replace hE3 : E = if order.size ≠ 0 ∧ (vars.any fun x => decide (order = x)) = false then some 5 else if down = true ∧ order.size = 0 then some 3 else if limit < -1 ∨ 500 < limit then some 1 else none := hE3
          cases hO : order.toList.isEmpty with
          | true =>
            have h0 : order.size = 0 := by rw [isEmpty_toList] at hO; simpa using hO
            rw [if_neg (fun h => h.1 h0)] at hE3
            by_cases hdn : down = true
            · rw [if_pos ⟨hdn, h0⟩] at hE3
              have HG := Lib.hid hE3
              clear hE3 h0
              go_wp2
              go_ret
              exact ⟨by rw [HG.out]; rfl, hxb.trans hx⟩
            · rw [if_neg (fun h => hdn h.1)] at hE3
              have hdf : down = false := by simpa using hdn
              clear h0 hdn
              by_cases l1 : limit < -1
              · rw [if_pos (.inl l1)] at hE3
                have HG := Lib.hid hE3
                clear hE3
                go_wp2
                go_ret
                exact ⟨by rw [HG.out]; rfl, hxb.trans hx⟩
              · by_cases l2 : 500 < limit
                · rw [if_pos (.inr l2)] at hE3
                  have HG := Lib.hid hE3
                  clear hE3
                  go_wp2
                  go_ret
                  exact ⟨by rw [HG.out]; rfl, hxb.trans hx⟩
                · rw [if_neg (fun h => h.elim l1 l2)] at hE3
                  have HG := Lib.hid hE3
                  clear hE3
                  go_wp2
                  go_ret
                  exact ⟨by rw [HG.out]; rfl, hxb.trans hx⟩
          | false =>
            have h0 : order.size ≠ 0 := fun h => by rw [isEmpty_toList] at hO; simp [h] at hO
            have hco := fun W (hW : Ext wr W) => contains_str _ vars order W (HV.out.ext ((hxb.trans hx).trans hW))
            cases hC : vars.any fun x => decide (order = x) with
            | false =>
              rw [if_pos ⟨h0, hC⟩] at hE3
              rw [hC] at hco
              have HG := Lib.hid (And.intro hE3 hco)
              clear hE3 h0 hco hC
              go_wp2_with (go_at_call 60; refine (HG.out.2 _ (Ext.refl _)).mono ?_; rintro e w3 ⟨rfl, hx3⟩; have A5 := cells_at (heap_ext (hx.trans hx3) hba))
              go_ret
              exact ⟨by rw [HG.out.1]; rfl, hxb.trans (hx.trans hx3)⟩
            | true =>
              rw [if_neg (fun h => by rw [hC] at h; exact absurd h.2 (by decide)), if_neg (fun h => h0 h.2)] at hE3
              rw [hC] at hco
              have HQ := Lib.hid hco
              clear h0 hco hC
              cases hdn : down with
              | true =>
                by_cases l1 : limit < -1
                · rw [if_pos (.inl l1)] at hE3
                  have HG := Lib.hid hE3
                  clear hE3
                  go_wp2_with (go_at_call 60; refine (HQ.out _ (Ext.refl _)).mono ?_; rintro e w3 ⟨rfl, hx3⟩; have A5 := cells_at (heap_ext (hx.trans hx3) hba))
                  go_ret
                  exact ⟨by rw [HG.out]; rfl, hxb.trans (hx.trans hx3)⟩
                · by_cases l2 : 500 < limit
                  · rw [if_pos (.inr l2)] at hE3
                    have HG := Lib.hid hE3
                    clear hE3
                    go_wp2_with (go_at_call 60; refine (HQ.out _ (Ext.refl _)).mono ?_; rintro e w3 ⟨rfl, hx3⟩; have A5 := cells_at (heap_ext (hx.trans hx3) hba))
                    go_ret
                    exact ⟨by rw [HG.out]; rfl, hxb.trans (hx.trans hx3)⟩
                  · rw [if_neg (fun h => h.elim l1 l2)] at hE3
                    have HG := Lib.hid hE3
                    clear hE3
                    go_wp2_with (go_at_call 60; refine (HQ.out _ (Ext.refl _)).mono ?_; rintro e w3 ⟨rfl, hx3⟩; have A5 := cells_at (heap_ext (hx.trans hx3) hba))
                    go_ret
                    exact ⟨by rw [HG.out]; rfl, hxb.trans (hx.trans hx3)⟩
              | false =>
                by_cases l1 : limit < -1
                · rw [if_pos (.inl l1)] at hE3
                  have HG := Lib.hid hE3
                  clear hE3
                  go_wp2_with (go_at_call 60; refine (HQ.out _ (Ext.refl _)).mono ?_; rintro e w3 ⟨rfl, hx3⟩; have A5 := cells_at (heap_ext (hx.trans hx3) hba))
                  go_ret
                  exact ⟨by rw [HG.out]; rfl, hxb.trans (hx.trans hx3)⟩
                · by_cases l2 : 500 < limit
                  · rw [if_pos (.inr l2)] at hE3
                    have HG := Lib.hid hE3
                    clear hE3
                    go_wp2_with (go_at_call 60; refine (HQ.out _ (Ext.refl _)).mono ?_; rintro e w3 ⟨rfl, hx3⟩; have A5 := cells_at (heap_ext (hx.trans hx3) hba))
                    go_ret
                    exact ⟨by rw [HG.out]; rfl, hxb.trans (hx.trans hx3)⟩
                  · rw [if_neg (fun h => h.elim l1 l2)] at hE3
                    have HG := Lib.hid hE3
                    clear hE3
                    go_wp2_with (go_at_call 60; refine (HQ.out _ (Ext.refl _)).mono ?_; rintro e w3 ⟨rfl, hx3⟩; have A5 := cells_at (heap_ext (hx.trans hx3) hba))
                    go_ret
                    exact ⟨by rw [HG.out]; rfl, hxb.trans (hx.trans hx3)⟩
end Go.Proofs.Ytmobdmljbbckiaa
