/- The law CodeLong walked: true for every set. -/
import Derived.Test.YtommohepbpdmdaaCodeSet
namespace Go.Proofs.Ytommohepbpdmdaa
open Go.RowKit
set_option maxHeartbeats 1600000
set_option maxRecDepth 100000

/-- what the law sums -/
def lenSum (l : List Tr) (j : Nat) : Nat := 2 + ((l.take j).flatMap codeTr).length
theorem lenSum_next {l : List Tr} {j : Nat} (h : j < l.length) : lenSum l (j + 1) = lenSum l j + (codeTr l[j]).length := by
  unfold lenSum; rw [code_take h, List.length_append]; omega
theorem lenSum_all (l : List Tr) : lenSum l l.length = (codeSet l).length := by unfold lenSum codeSet; simp; omega

theorem codeLong_any (va : Value) (l : List Tr) (w : World) (hl : Reads encTr w va l) :
    Calls Try.prog 4 #[va] w fun e w' => e = .returned (.bool true) ∧ Ext w w' := by
  have hnil := fun W => codeSet_any (.slice none 0 0) [] W (Reads.nil encTr W none 0 (by decide))
  have hset := fun W (h : Ext w W) => codeSet_any va l W (hl.ext h)
  have hsort := fun W (h : Ext w W) => sorted_any va l W (hl.ext h)
  have e0 : setOut [] = .tuple #[.string ⟨#[0, 0]⟩, .nilIface] := by rfl
  rw [e0] at hnil
  clear e0
  unfold setOut at hset
  cases hE : setErr l with
  | some n =>
    rw [hE] at hset hsort
    dsimp only [errV] at hset hsort
    have HA := Lib.hid (And.intro hnil (And.intro hset hsort))
    clear hE hnil hset hsort hl
    go_enter Try.func4, Try.ntmps4
    go_upto_region 2 with (go_at_call 13; refine (HA.out.1 _).mono ?_; rintro e w1 ⟨rfl, hx1⟩)
    go_upto_region 5 with (go_at_call 13; refine (HA.out.2.1 w1 hx1).mono ?_; rintro e w2 ⟨rfl, hx2⟩)
    go_wp2_with (go_at_call 14; refine (HA.out.2.2 _ (Ext.trans hx1 hx2)).mono ?_; rintro e w3 ⟨rfl, hx3⟩)
    go_ret
    exact ⟨rfl, (Ext.trans (Ext.trans hx1 hx2) hx3)⟩
  | none =>
    obtain ⟨h200, hfit⟩ := fits_of_ok hE
    rw [hE] at hset
    have hlast := lenSum_all l
    have hnext := fun j (h : j < l.length) => (lenSum_next h).trans (by rw [codeTr_length])
    have hle := fun j hj => code_le hfit j hj
    dsimp only [errV] at hset
    obtain ⟨L, hL⟩ : ∃ L, L = codeSet l := ⟨_, rfl⟩
    rw [← hL] at hset hlast
    have HA := Lib.hid (And.intro hnil hset)
    have HB := Lib.hid (And.intro hlast (And.intro hnext (And.intro hle hfit)))
    clear hE hnil hset hsort hL hlast hnext hle hfit
    go_enter Try.func4, Try.ntmps4
    go_upto_region 2 with (go_at_call 13; refine (HA.out.1 _).mono ?_; rintro e w1 ⟨rfl, hx1⟩)
    go_wp2_with (go_at_call 13; refine (HA.out.2 w1 hx1).mono ?_; rintro e w2 ⟨rfl, hx2⟩)
    have hx := hx1.trans hx2
    clear hx1 hx2
    obtain ⟨a, cap, rfl, hcap, hmax, hcells⟩ := hl
    unfold maxLen at hmax
    go_loopw [7, 8] (fun nv jv wr => ∃ j : Nat, jv = .int .i64 j ∧ nv = .int .i64 (lenSum l j : Nat) ∧ j ≤ l.length ∧ Ext w wr) (fun _ jv _ => l.length - (intOf jv).toNat)
    case atStart => exact ⟨0, rfl, by simp [lenSum], Nat.zero_le _, hx⟩
    case round =>
      obtain ⟨j, rfl, rfl, hj, hxr⟩ := hrel
      by_cases hlt : j < l.length
      · obtain ⟨b, off, rfl, hc⟩ := hcells (fun h => by simp [h] at hlt)
        obtain ⟨c0, c1, c2, c3, c4, c5, c6, c7, c8⟩ := Tr.cells hc hlt
        have d1 := Later.cell (hxr.cell c1)
        have d4 := Later.cell (hxr.cell c4)
        have d7 := Later.cell (hxr.cell c7)
        have d8 := Later.cell (hxr.cell c8)
        have hf := HB.out.2.2.2 j hlt
        have hn := HB.out.2.1 j hlt
        have hm := HB.out.2.2.1 j hj
        clear c0 c1 c2 c3 c4 c5 c6 c7 c8 hcells
        generalize l[j] = t at d1 d4 d7 d8 hf hn
        obtain ⟨⟨k1, s1, g1⟩, ⟨k2, s2, g2⟩, ⟨k3, s3, g3⟩⟩ := t
        dsimp only at *
        have hg1 : g1.size = 0 := hf.s.plain (by have := hf.shape; simp [trShape] at this; exact this.1)
        have hg2 : g2.size = 0 := hf.p.plain (by have := hf.shape; simp [trShape] at this; dsimp only; omega)
        have b1 : s1.size ≤ 24 := hf.s.s
        have b2 : s2.size ≤ 24 := hf.p.s
        have b3 : s3.size ≤ 24 := hf.o.s
        have b4 : g3.size ≤ 2 := hf.o.g
        have hs : lenSum l j = 2 + (List.flatMap codeTr (List.take j l)).length := rfl
        generalize lenSum l j = m at hn hs ⊢
        have hm' : m ≤ 2 + 84 * 200 := by omega
        have HN := Lib.hid hn
        clear hs hm hf hn
        rw [hg1, hg2] at HN
        go_upto_region 11 with fail
        have hwr : IntKind.i64.wrap (j : Int) = j := IntWalk.i64_in _ (by omega)
        refine wp_region_ext [0, 1, 2, 3, 4, 5, 6, 7, 8, 9, 10, 11, 12, 13, 14, 15, 16, 17, 18, 19, 20, 21, 22, 23, 24, 25, 26, 27, 28, 29, 30, 31, 32, 33, 34] [] (by kernel_rfl) (by kernel_rfl) ?_
        simp only [List.filterMap_cons, List.filterMap_nil, List.getElem?_cons_succ, List.getElem?_cons_zero]
        repeat (first | ((with_reducible refine wpFr_yes ?hw ?_); (case hw => rfl); intro K hK; go_simp; (first | (refine hK _ ?_; clear hK K) | (apply Exists.intro; refine ⟨fun x => ?_, hK _ ?_⟩; (fail); clear hK K))) | ((with_reducible refine wpFr_not ?hw ?_); (case hw => rfl); intro K hK; go_simp; (refine hK _ ?_; clear hK K)))
        refine wpFr_nil ?_
        clear hwr
        refine wpTl_nil fun x hxx => ?_
        go_wp2
        go_roundw
        case rel => exact ⟨j + 1, vi (by omega), vi (by rw [HN.out]; simp (disch := omega) only [IntWalk.i64_in]; omega), by omega, hxr.trans hxx⟩
        case measure => simp [intOf]; omega
      · have hjl : j = l.length := by omega
        subst hjl
        clear hcells
        go_wp2
        go_ret
        exact ⟨by rw [HB.out.1]; simp, hxr⟩
end Go.Proofs.Ytommohepbpdmdaa
