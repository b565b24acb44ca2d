/- What term.Check and triple.Check, triple.Sorted do to the world. -/
import Derived.Test.YtmobdmljbbckiaaTermWalks
namespace Go.Proofs.Ytmobdmljbbckiaa
open Go.RowKit
set_option maxHeartbeats 800000
set_option maxRecDepth 100000

/-- an error as a value -/
def errV : Option Int → Value
  | none => .nilIface
  | some n => eV n

theorem termCheck_any (t : Tm) (w : World) : Calls Try.prog 36 #[vTm t] w fun e w' => e = .returned (errV (tmErr t)) ∧ Ext w w' := by
  by_cases h1 : t.kind < 1 ∨ 3 < t.kind
  · have hk : (decide (1 ≤ t.kind) && decide (t.kind ≤ 3)) = false := by simp; omega
    have he : tmErr t = some 1 := by simp [tmErr, h1]
    obtain ⟨k, s, l⟩ := t
    have HE := Lib.hid he
    clear he h1
    go_enter Try.func36, Try.ntmps36
    go_wp2_with (go_at_call 70; refine (kind_any _ _).mono ?_; rintro e w1 ⟨rfl, rfl⟩)
    go_ret
    exact ⟨by rw [HE.out]; rfl, (Ext.refl w).alloc _⟩
  have hk : (decide (1 ≤ t.kind) && decide (t.kind ≤ 3)) = true := by simp; omega
  by_cases h2 : 24 < t.s.size
  · have he : tmErr t = some 4 := by simp [tmErr, h1, h2]
    obtain ⟨k, s, l⟩ := t
    have HE := Lib.hid he
    clear he h1
    go_enter Try.func36, Try.ntmps36
    go_wp2_with (go_at_call 70; refine (kind_any _ _).mono ?_; rintro e w1 ⟨rfl, rfl⟩)
    go_ret
    exact ⟨by rw [HE.out]; rfl, (Ext.refl w).alloc _⟩
  have he : tmErr t = if synBad t = true then some 2 else if langBad t = true then some 2 else none := by simp [tmErr, h1, h2]
  have HE := Lib.hid he
  clear he
  obtain ⟨k, s, l⟩ := t
  dsimp only at *
  have hs24 : s.size ≤ 24 := by omega
  have hk1 : 1 ≤ k := by omega
  have hk3 : k ≤ 3 := by omega
  clear h1 h2
  go_enter Try.func36, Try.ntmps36
  go_upto_region 5 with (go_at_call 70; refine (kind_any _ _).mono ?_; rintro e w1 ⟨rfl, rfl⟩)
  have hh := alloc_heap_new w (.cells #[.int .i64 k, .string s, .string l] 28)
  have hx := (Ext.refl w).alloc (.cells #[.int .i64 k, .string s, .string l] 28)
  generalize hwb : World.alloc w _ = wb at hh hx ⊢
  clear hwb
  go_cut [15] (fun r wx => r = .bool (synBad ⟨k, s, l⟩) ∧ Ext wb wx)
  case first =>
    have A := Later.cells hh
    have hsyn : synBad ⟨k, s, l⟩ = (!(bytesOf s).all (okBytes k) || (decide (k ≠ 3) && (bytesOf s).isEmpty) || (decide (k = 1) && !(match bytesOf s with | c :: _ => isLetter c | [] => true))) := rfl
    have hcall := fun W => termAll_any s (fnBytes k) (okBytes k) W (by unfold maxLen; omega) (bytes_tells k _ _ _)
    cases hA : (bytesOf s).all (okBytes k) with
    | false =>
      rw [hA] at hcall
      have HC := Lib.hid hcall
      have hs : synBad ⟨k, s, l⟩ = true := by rw [hsyn, hA]; simp
      have HS := Lib.hid hs
      clear hcall hsyn hA hs hh
      refine wp_region_ext [0, 1, 2, 3, 4, 5, 6, 7, 8, 9, 10, 11, 12, 13, 14, 15, 16, 17, 18, 19, 20, 21, 22, 23, 24, 25, 26, 27, 28, 29] [] (by kernel_rfl) (by kernel_rfl) ?_
      simp only [List.filterMap_cons, List.filterMap_nil, List.getElem?_cons_succ, List.getElem?_cons_zero]
      repeat (first | ((with_reducible refine wpFr_yes ?hw ?_); (case hw => rfl); intro K hK; go_simp; (first | (refine hK _ ?_; clear hK K) | (apply Exists.intro; refine ⟨fun x => ?_, hK _ ?_⟩; ((first | (go_at_call 41; exact (bytes_any _ _).mono fun e w' ⟨h1, h2⟩ => ⟨h1, h2 ▸ Ext.refl _⟩) | (go_at_call 40; exact HC.out _))); clear hK K))) | ((with_reducible refine wpFr_not ?hw ?_); (case hw => rfl); intro K hK; go_simp; (refine hK _ ?_; clear hK K)))
      refine wpFr_nil ?_
      refine wpTl_nil fun x hxx => ?_
      go_wp2_with fail
      go_meet
      case rel => exact ⟨by rw [HS.out], hxx⟩
    | true =>
      rw [hA] at hcall hsyn
      have HC := Lib.hid hcall
      clear hcall hA hh
      by_cases h3 : k = 3
      · subst h3
        have hs : synBad ⟨3, s, l⟩ = false := by rw [hsyn]; rfl
        have HS := Lib.hid hs
        clear hsyn hs
        refine wp_region_ext [0, 1, 2, 3, 4, 5, 6, 7, 8, 9, 10, 11, 12, 13, 14, 15, 16, 17, 18, 19, 20, 21, 22, 23, 24, 25, 26, 27, 28, 29] [] (by kernel_rfl) (by kernel_rfl) ?_
        simp only [List.filterMap_cons, List.filterMap_nil, List.getElem?_cons_succ, List.getElem?_cons_zero]
        repeat (first | ((with_reducible refine wpFr_yes ?hw ?_); (case hw => rfl); intro K hK; go_simp; (first | (refine hK _ ?_; clear hK K) | (apply Exists.intro; refine ⟨fun x => ?_, hK _ ?_⟩; ((first | (go_at_call 41; exact (bytes_any _ _).mono fun e w' ⟨h1, h2⟩ => ⟨h1, h2 ▸ Ext.refl _⟩) | (go_at_call 40; exact HC.out _))); clear hK K))) | ((with_reducible refine wpFr_not ?hw ?_); (case hw => rfl); intro K hK; go_simp; (refine hK _ ?_; clear hK K)))
        refine wpFr_nil ?_
        refine wpTl_nil fun x hxx => ?_
        go_wp2_with fail
        go_meet
        case rel => exact ⟨by rw [HS.out], hxx⟩
      · have b3 : (k != 3) = true := by simpa using h3
        have e3 : decide (k ≠ 3) = true := by simpa using h3
        rw [e3] at hsyn
        by_cases hE : s.size = 0
        · have b0 : s.toList.isEmpty = true := by rw [isEmpty_toList]; simpa using hE
          have hs : synBad ⟨k, s, l⟩ = true := by rw [hsyn, isEmpty_bytes, hE]; rfl
          have HS := Lib.hid hs
          clear hsyn hs h3 e3 hE
          refine wp_region_ext [0, 1, 2, 3, 4, 5, 6, 7, 8, 9, 10, 11, 12, 13, 14, 15, 16, 17, 18, 19, 20, 21, 22, 23, 24, 25, 26, 27, 28, 29] [] (by kernel_rfl) (by kernel_rfl) ?_
          simp only [List.filterMap_cons, List.filterMap_nil, List.getElem?_cons_succ, List.getElem?_cons_zero]
          repeat (first | ((with_reducible refine wpFr_yes ?hw ?_); (case hw => rfl); intro K hK; go_simp; (first | (refine hK _ ?_; clear hK K) | (apply Exists.intro; refine ⟨fun x => ?_, hK _ ?_⟩; ((first | (go_at_call 41; exact (bytes_any _ _).mono fun e w' ⟨h1, h2⟩ => ⟨h1, h2 ▸ Ext.refl _⟩) | (go_at_call 40; exact HC.out _))); clear hK K))) | ((with_reducible refine wpFr_not ?hw ?_); (case hw => rfl); intro K hK; go_simp; (refine hK _ ?_; clear hK K)))
          refine wpFr_nil ?_
          refine wpTl_nil fun x hxx => ?_
          go_wp2_with fail
          go_meet
          case rel => exact ⟨by rw [HS.out], hxx⟩
        · have b0 : s.toList.isEmpty = false := by rw [isEmpty_toList]; simpa using hE
          have b1' : (bytesOf s).isEmpty = false := by rw [isEmpty_bytes]; simpa using hE
          rw [b1'] at hsyn
          have hpos : 0 < s.size := by omega
          by_cases h1 : k = 1
          · subst h1
            obtain ⟨r, hr⟩ := bytesOf_cons hpos
            rw [hr] at hsyn
            have hlet := fun W => letter_any s[0] W
            cases hL : isLetter s[0] with
            | false =>
              rw [hL] at hlet
              have hs : synBad ⟨1, s, l⟩ = true := by rw [hsyn]; simp [hL]
              have HS := Lib.hid (And.intro hs hlet)
              clear hsyn hs hL hlet hr hE b1' e3 h3
              refine wp_region_ext [0, 1, 2, 3, 4, 5, 6, 7, 8, 9, 10, 11, 12, 13, 14, 15, 16, 17, 18, 19, 20, 21, 22, 23, 24, 25, 26, 27, 28, 29] [] (by kernel_rfl) (by kernel_rfl) ?_
              simp only [List.filterMap_cons, List.filterMap_nil, List.getElem?_cons_succ, List.getElem?_cons_zero]
              repeat (first | ((with_reducible refine wpFr_yes ?hw ?_); (case hw => rfl); intro K hK; go_simp; (first | (refine hK _ ?_; clear hK K) | (apply Exists.intro; refine ⟨fun x => ?_, hK _ ?_⟩; ((first | (go_at_call 41; exact (bytes_any _ _).mono fun e w' ⟨h1, h2⟩ => ⟨h1, h2 ▸ Ext.refl _⟩) | (go_at_call 40; exact HC.out _) | (go_at_call 71; exact HS.out.2 _))); clear hK K))) | ((with_reducible refine wpFr_not ?hw ?_); (case hw => rfl); intro K hK; go_simp; (refine hK _ ?_; clear hK K)))
              refine wpFr_nil ?_
              refine wpTl_nil fun x hxx => ?_
              go_wp2_with fail
              go_meet
              case rel => exact ⟨by rw [HS.out.1], hxx⟩
            | true =>
              rw [hL] at hlet
              have hs : synBad ⟨1, s, l⟩ = false := by rw [hsyn]; simp [hL]
              have HS := Lib.hid (And.intro hs hlet)
              clear hsyn hs hL hlet hr hE b1' e3 h3
              refine wp_region_ext [0, 1, 2, 3, 4, 5, 6, 7, 8, 9, 10, 11, 12, 13, 14, 15, 16, 17, 18, 19, 20, 21, 22, 23, 24, 25, 26, 27, 28, 29] [] (by kernel_rfl) (by kernel_rfl) ?_
              simp only [List.filterMap_cons, List.filterMap_nil, List.getElem?_cons_succ, List.getElem?_cons_zero]
              repeat (first | ((with_reducible refine wpFr_yes ?hw ?_); (case hw => rfl); intro K hK; go_simp; (first | (refine hK _ ?_; clear hK K) | (apply Exists.intro; refine ⟨fun x => ?_, hK _ ?_⟩; ((first | (go_at_call 41; exact (bytes_any _ _).mono fun e w' ⟨h1, h2⟩ => ⟨h1, h2 ▸ Ext.refl _⟩) | (go_at_call 40; exact HC.out _) | (go_at_call 71; exact HS.out.2 _))); clear hK K))) | ((with_reducible refine wpFr_not ?hw ?_); (case hw => rfl); intro K hK; go_simp; (refine hK _ ?_; clear hK K)))
              refine wpFr_nil ?_
              refine wpTl_nil fun x hxx => ?_
              go_wp2_with fail
              go_meet
              case rel => exact ⟨by rw [HS.out.1], hxx⟩
          · have b1 : (k == 1) = false := by simpa using h1
            have e1 : decide (k = 1) = false := by simpa using h1
            have hs : synBad ⟨k, s, l⟩ = false := by rw [hsyn, e1]; rfl
            have HS := Lib.hid hs
            clear hsyn hs h1 h3 e1 e3 hE b1'
            refine wp_region_ext [0, 1, 2, 3, 4, 5, 6, 7, 8, 9, 10, 11, 12, 13, 14, 15, 16, 17, 18, 19, 20, 21, 22, 23, 24, 25, 26, 27, 28, 29] [] (by kernel_rfl) (by kernel_rfl) ?_
            simp only [List.filterMap_cons, List.filterMap_nil, List.getElem?_cons_succ, List.getElem?_cons_zero]
            repeat (first | ((with_reducible refine wpFr_yes ?hw ?_); (case hw => rfl); intro K hK; go_simp; (first | (refine hK _ ?_; clear hK K) | (apply Exists.intro; refine ⟨fun x => ?_, hK _ ?_⟩; ((first | (go_at_call 41; exact (bytes_any _ _).mono fun e w' ⟨h1, h2⟩ => ⟨h1, h2 ▸ Ext.refl _⟩) | (go_at_call 40; exact HC.out _))); clear hK K))) | ((with_reducible refine wpFr_not ?hw ?_); (case hw => rfl); intro K hK; go_simp; (refine hK _ ?_; clear hK K)))
            refine wpFr_nil ?_
            refine wpTl_nil fun x hxx => ?_
            go_wp2_with fail
            go_meet
            case rel => exact ⟨by rw [HS.out], hxx⟩
  case rest =>
    obtain ⟨rfl, hx1⟩ := hcut
    have hw2 : Ext w wc := hx.trans hx1
    cases hS : synBad ⟨k, s, l⟩ with
    | true =>
      rw [hS] at HE
      clear hh
      go_wp2
      go_ret
      exact ⟨by rw [HE.out]; rfl, hw2⟩
    | false =>
      rw [hS] at HE
      have hh1 := heap_ext hx1 hh
      have c2 : wc.cell? ⟨w.heap.size, 2, none⟩ = some (.string l) := by simp [World.cell?, hh1]
      have c0 : wc.cell? ⟨w.heap.size, 0, none⟩ = some (.int .i64 k) := by simp [World.cell?, hh1]
      have hlang : langBad ⟨k, s, l⟩ = (!(bytesOf l).isEmpty && (decide (k ≠ 3) || decide (l.size ≠ 2) || !(bytesOf l).all isLetter)) := rfl
      rw [isEmpty_bytes] at hlang
      clear hh hh1 hS
      go_upto_region 7 with (fail)
      go_cut [46] (fun r wx => r = .bool (langBad ⟨k, s, l⟩) ∧ Ext wc wx)
      case first =>
        by_cases hE : l.size = 0
        · have b0 : l.toList.isEmpty = true := by rw [isEmpty_toList]; simpa using hE
          have hs : langBad ⟨k, s, l⟩ = false := by rw [hlang, hE]; rfl
          have HS := Lib.hid hs
          clear hlang hs hE
          go_wp2
          go_meet
          case rel => exact ⟨by rw [HS.out], Ext.refl _⟩
        · have b0 : l.toList.isEmpty = false := by rw [isEmpty_toList]; simpa using hE
          have e0 : decide (l.size = 0) = false := by simpa using hE
          rw [e0] at hlang
          by_cases h3 : k = 3
          · subst h3
            by_cases h2 : l.size = 2
            · have b2 : ((l.size : Int) != 2) = false := by simp; omega
              have hcall := fun W => termAll_any l 71 isLetter W (by unfold maxLen; omega) (letter_tells _ _ _)
              cases hA : (bytesOf l).all isLetter
              all_goals
                rw [hA] at hcall hlang
                have HC := Lib.hid hcall
                have hs := hlang
                rw [h2] at hs
                have HS := Lib.hid hs
                clear hcall hA hs hlang e0 hE h2
                go_wp2_with (go_at_call 40; refine (HC.out _).mono ?_; rintro e w3 ⟨rfl, hx3⟩)
                go_meet
                case rel => exact ⟨by rw [HS.out]; rfl, hx3⟩
            · have b2 : ((l.size : Int) != 2) = true := by simp; omega
              have e2 : decide (l.size ≠ 2) = true := by simpa using h2
              have hs : langBad ⟨3, s, l⟩ = true := by rw [hlang, e2]; rfl
              have HS := Lib.hid hs
              clear hlang hs e0 e2 hE h2
              go_wp2
              go_meet
              case rel => exact ⟨by rw [HS.out], Ext.refl _⟩
          · have b3 : (k != 3) = true := by simpa using h3
            have e3 : decide (k ≠ 3) = true := by simpa using h3
            have hs : langBad ⟨k, s, l⟩ = true := by rw [hlang, e3]; rfl
            have HS := Lib.hid hs
            clear hlang hs e0 e3 hE h3
            go_wp2
            go_meet
            case rel => exact ⟨by rw [HS.out], Ext.refl _⟩
      case rest =>
        obtain ⟨rfl, hx2⟩ := hcut
        rename_i wd _
        cases hL : langBad ⟨k, s, l⟩
        all_goals
          rw [hL] at HE
          clear hlang
          go_wp2
          go_ret
          exact ⟨by rw [HE.out]; rfl, hw2.trans hx2⟩

end Go.Proofs.Ytmobdmljbbckiaa
