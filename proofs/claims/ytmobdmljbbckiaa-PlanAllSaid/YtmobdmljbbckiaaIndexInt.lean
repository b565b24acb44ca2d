/- slices.IndexFunc at ints. -/
import Derived.Test.YtmobdmljbbckiaaFuncs
namespace Go.Proofs.Ytmobdmljbbckiaa
open Go.RowKit
set_option maxHeartbeats 1600000 in
theorem indexFunc_int (v : Value) (l : List Int) (w : World) (B g : Nat) (lb : Array Value) (p : Int → Bool) (hl : Reads encI w v l) (hB : B ≤ w.heap.size)
    (ht : Tells B w g lb (Value.int .i64) p (· ∈ l)) :
    Calls Try.prog 69 #[v, .func (.func g) #[] lb] w fun e w' => e = .returned (.int .i64 (idxF p l)) ∧ Ext w w' := by
  obtain ⟨a, cap, rfl, hcap, hmax, hcells⟩ := hl
  obtain ⟨eg, hcall⟩ := ht
  unfold maxLen at hmax
  go_enter Try.func69, Try.ntmps69
  go_wp2
  go_loopw [8] (fun jv wr => ∃ j : Nat, jv = .int .i64 j ∧ j ≤ l.length ∧ Hid (∀ i (hi : i < j) (hl : i < l.length), p l[i] = false) ∧ Ext w wr) (fun jv _ => l.length - (intOf jv).toNat)
  case atStart => exact ⟨0, rfl, Nat.zero_le _, (fun i hi => absurd hi (Nat.not_lt_zero _)), Ext.refl _⟩
  case round =>
    obtain ⟨j, rfl, hj, hb, hx⟩ := hrel
    by_cases hlt : j < l.length
    · obtain ⟨b, off, rfl, hc⟩ := hcells (fun h => by simp [h] at hlt)
      have hcx : wr.cell? ⟨b, off + j, none⟩ = some ((Value.int .i64) l[j]) := hx.cell (Reads.one_at (enc1 := (Value.int .i64)) hc hlt)
      have hcl := hcall wr l[j] (List.getElem_mem hlt) (Below.mono hx hB)
      clear hcall hc hcells
      generalize hy : l[j] = y at hcx hcl
      have HY := Lib.hid hy
      clear hy
      cases hp : p y with
      | true =>
        rw [hp] at hcl
        have HC := Lib.hid hcl
        clear hcl
        go_wp2_with (go_at_fn g; refine HC.out.mono ?_; rintro e w1 ⟨rfl, hx1⟩)
        go_ret
        exact ⟨by rw [idxF_hit hlt (by rw [HY.out]; exact hp) (fun i hi => hb.out i hi (by omega))]; rfl, hx.trans hx1⟩
      | false =>
        rw [hp] at hcl
        have HC := Lib.hid hcl
        clear hcl
        go_wp2_with (go_at_fn g; refine HC.out.mono ?_; rintro e w1 ⟨rfl, hx1⟩)
        go_roundw
        case rel =>
          refine ⟨j + 1, vi (by omega), hlt, (fun i hi hl => ?_), hx.trans hx1⟩
          by_cases e : i = j
          · subst e; rw [HY.out]; exact hp
          · exact hb.out i (by omega) hl
        case measure => simp [intOf]; omega
    · have hjl : j = l.length := by omega
      subst hjl
      clear hcall
      go_wp2
      go_ret
      exact ⟨by rw [idxF_miss (fun j hj => hb.out j hj hj)]; rfl, hx⟩
theorem zeroInt (w : World) : (zeroValue 3).run Try.prog w = .ok (.int .i64 0) w := by kernel_rfl
end Go.Proofs.Ytmobdmljbbckiaa
