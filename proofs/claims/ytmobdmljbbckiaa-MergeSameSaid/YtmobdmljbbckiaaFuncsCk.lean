/- slices.IndexFunc, DeleteFunc at pairs. -/
import Derived.Test.YtmobdmljbbckiaaFuncs
import Derived.Test.YtmobdmljbbckiaaMergeThree
import Derived.WideShapes
namespace Go.Proofs.Ytmobdmljbbckiaa
open Go.RowKit Go.WideShapes
set_option maxHeartbeats 1600000
set_option maxRecDepth 100000

theorem indexFunc_ck (v : Value) (l : List Ck) (w : World) (B g : Nat) (lb : Array Value) (p : Ck → Bool) (hl : Reads encCk w v l) (hB : B ≤ w.heap.size)
    (ht : Tells B w g lb vCk p (· ∈ l)) :
    Calls Try.prog 83 #[v, .func (.func g) #[] lb] w fun e w' => e = .returned (.int .i64 (idxF p l)) ∧ Ext w w' := by
  obtain ⟨a, cap, rfl, hcap, hmax, hcells⟩ := hl
  obtain ⟨eg, hcall⟩ := ht
  unfold maxLen at hmax
  go_enter Try.func83, Try.ntmps83
  go_wp2
  go_loopw [8] (fun jv wr => ∃ j : Nat, jv = .int .i64 j ∧ j ≤ l.length ∧ Hid (∀ i (hi : i < j) (hl : i < l.length), p l[i] = false) ∧ Ext w wr) (fun jv _ => l.length - (intOf jv).toNat)
  case atStart => exact ⟨0, rfl, Nat.zero_le _, (fun i hi => absurd hi (Nat.not_lt_zero _)), Ext.refl _⟩
  case round =>
    obtain ⟨j, rfl, hj, hb, hx⟩ := hrel
    by_cases hlt : j < l.length
    · obtain ⟨b, off, rfl, hc⟩ := hcells (fun h => by simp [h] at hlt)
      obtain ⟨c0, c1, c2, c3, c4, c5⟩ := Ck.cells hc hlt
      have d0 := hx.cell c0
      have d1 := hx.cell c1
      have d2 := hx.cell c2
      have d3 := hx.cell c3
      have d4 := hx.cell c4
      have d5 := hx.cell c5
      have hcl := hcall wr l[j] (List.getElem_mem hlt) (Below.mono hx hB)
      clear hcall hc hcells c0 c1 c2 c3 c4 c5
      generalize hy : l[j] = y at d0 d1 d2 d3 d4 d5 hcl
      have HY := Lib.hid hy
      clear hy
      obtain ⟨⟨k1, s1, g1⟩, ⟨k2, s2, g2⟩⟩ := y
      dsimp only at *
      cases hp : p ⟨⟨k1, s1, g1⟩, ⟨k2, s2, g2⟩⟩ with
      | true =>
        rw [hp] at hcl
        have HC := Lib.hid hcl
        have HP := Lib.hid hp
        clear hcl hp
        go_wp2_with (go_at_fn g; refine HC.out.mono ?_; rintro e w1 ⟨rfl, hx1⟩)
        go_ret
        exact ⟨by rw [idxF_hit hlt (by rw [HY.out]; exact HP.out) (fun i hi => hb.out i hi (by omega))]; rfl, hx.trans hx1⟩
      | false =>
        rw [hp] at hcl
        have HC := Lib.hid hcl
        have HP := Lib.hid hp
        clear hcl hp
        go_wp2_with (go_at_fn g; refine HC.out.mono ?_; rintro e w1 ⟨rfl, hx1⟩)
        go_roundw
        case rel =>
          refine ⟨j + 1, vi (by omega), hlt, (fun i hi hl => ?_), hx.trans hx1⟩
          by_cases e : i = j
          · subst e; rw [HY.out]; exact HP.out
          · exact hb.out i (by omega) hl
        case measure => simp [intOf]; omega
    · have hjl : j = l.length := by omega
      subst hjl
      clear hcall
      go_wp2
      go_ret
      exact ⟨by rw [idxF_miss (fun j hj => hb.out j hj hj)]; rfl, hx⟩

/-- nothing is taken out -/
theorem deleteFunc_ck_none (v : Value) (l : List Ck) (w : World) (B g : Nat) (lb : Array Value) (p : Ck → Bool) (hl : Reads encCk w v l) (hB : B ≤ w.heap.size)
    (ht : Tells B w g lb vCk p (· ∈ l)) (hp : ∀ x ∈ l, p x = false) :
    Calls Try.prog 45 #[v, .func (.func g) #[] lb] w fun e w' => e = .returned v ∧ Ext w w' := by
  have hI := indexFunc_ck v l w B g lb p hl hB ht
  rw [show idxF p l = -1 from idxF_miss (fun j hj => hp _ (List.getElem_mem hj))] at hI
  have HI := Lib.hid hI
  clear hI ht hp
  obtain ⟨a, c, rfl⟩ := hl.slice
  clear hl
  go_enter Try.func45, Try.ntmps45
  go_wp2_with (go_at_call 83; refine HI.out.mono ?_; rintro e w1 ⟨rfl, hx1⟩)
  go_ret
  exact ⟨rfl, hx1⟩
end Go.Proofs.Ytmobdmljbbckiaa
