/- What the library's functions that are handed a function value do: slices.IndexFunc, ContainsFunc, DeleteFunc, at numbers. -/
import Derived.Test.YtmobdmljbbckiaaChecked
import Derived.Test.YtmobdmljbbckiaaBase
namespace Go.Proofs.Ytmobdmljbbckiaa
open Go.RowKit

/-- A function value (function g, bound to lb) that tells of each x in D whether it is so, in every world that below B is as w was; it turns nothing that lies. -/
structure Tells {α : Type} (B : Nat) (w : World) (g : Nat) (lb : Array Value) (arg : α → Value) (p : α → Bool) (D : α → Prop) : Prop where
  enters : ∀ args w, (callFunc g args).run Try.prog w = .ok (.enter g args) w
  tells : ∀ W x, D x → Below B w W → Calls Try.prog g (#[arg x] ++ lb) W fun e w' => e = .returned (.bool (p x)) ∧ Ext W w'

theorem Tells.later {α : Type} {B : Nat} {w w' : World} {g : Nat} {lb : Array Value} {arg : α → Value} {p : α → Bool} {D : α → Prop} (h : Tells B w g lb arg p D) (hb : Below B w w') : Tells B w' g lb arg p D :=
  ⟨h.enters, fun W x hx hW => h.tells W x hx (hb.trans hW)⟩
theorem Tells.mono {α : Type} {B B' : Nat} {w : World} {g : Nat} {lb : Array Value} {arg : α → Value} {p : α → Bool} {D : α → Prop} (h : Tells B w g lb arg p D) (hb : B ≤ B') : Tells B' w g lb arg p D :=
  ⟨h.enters, fun W x hx hW => h.tells W x hx (hW.mono hb)⟩

set_option maxHeartbeats 1600000 in
theorem indexFunc_byte (v : Value) (l : List UInt8) (w : World) (B g : Nat) (lb : Array Value) (p : UInt8 → Bool) (hl : Reads encB w v l) (hB : B ≤ w.heap.size)
    (ht : Tells B w g lb (fun (b : UInt8) => Value.int .u8 (b.toNat : Int)) p (· ∈ l)) :
    Calls Try.prog 99 #[v, .func (.func g) #[] lb] w fun e w' => e = .returned (.int .i64 (idxF p l)) ∧ Ext w w' := by
  obtain ⟨a, cap, rfl, hcap, hmax, hcells⟩ := hl
  obtain ⟨eg, hcall⟩ := ht
  unfold maxLen at hmax
  go_enter Try.func99, Try.ntmps99
  go_wp2
  go_loopw [8] (fun jv wr => ∃ j : Nat, jv = .int .i64 j ∧ j ≤ l.length ∧ Hid (∀ i (hi : i < j) (hl : i < l.length), p l[i] = false) ∧ Ext w wr) (fun jv _ => l.length - (intOf jv).toNat)
  case atStart => exact ⟨0, rfl, Nat.zero_le _, (fun i hi => absurd hi (Nat.not_lt_zero _)), Ext.refl _⟩
  case round =>
    obtain ⟨j, rfl, hj, hb, hx⟩ := hrel
    by_cases hlt : j < l.length
    · obtain ⟨b, off, rfl, hc⟩ := hcells (fun h => by simp [h] at hlt)
      have hcx : wr.cell? ⟨b, off + j, none⟩ = some ((fun (b : UInt8) => Value.int .u8 (b.toNat : Int)) l[j]) := hx.cell (Reads.one_at (enc1 := (fun (b : UInt8) => Value.int .u8 (b.toNat : Int))) hc hlt)
      have hcl := hcall wr l[j] (List.getElem_mem hlt) (Below.mono hx hB)
      clear hcall hc hcells
      generalize hy : l[j] = y at hcx hcl
      have HY := Lib.hid hy
      clear hy
      cases hp : p y with
      | true =>
        rw [hp] at hcl
        have HC := Lib.hid hcl
        clear hcl
        go_wp2_with (go_at_fn g; refine HC.out.mono ?_; rintro e w1 ⟨rfl, hx1⟩)
        go_ret
        exact ⟨by rw [idxF_hit hlt (by rw [HY.out]; exact hp) (fun i hi => hb.out i hi (by omega))]; rfl, hx.trans hx1⟩
      | false =>
        rw [hp] at hcl
        have HC := Lib.hid hcl
        clear hcl
        go_wp2_with (go_at_fn g; refine HC.out.mono ?_; rintro e w1 ⟨rfl, hx1⟩)
        go_roundw
        case rel =>
          refine ⟨j + 1, vi (by omega), hlt, (fun i hi hl => ?_), hx.trans hx1⟩
          by_cases e : i = j
          · subst e; rw [HY.out]; exact hp
          · exact hb.out i (by omega) hl
        case measure => simp [intOf]; omega
    · have hjl : j = l.length := by omega
      subst hjl
      clear hcall
      go_wp2
      go_ret
      exact ⟨by rw [idxF_miss (fun j hj => hb.out j hj hj)]; rfl, hx⟩
set_option maxHeartbeats 800000 in
theorem containsFunc_byte (v : Value) (l : List UInt8) (w : World) (B g : Nat) (lb : Array Value) (p : UInt8 → Bool) (hl : Reads encB w v l) (hB : B ≤ w.heap.size)
    (ht : Tells B w g lb (fun (b : UInt8) => Value.int .u8 (b.toNat : Int)) p (· ∈ l)) :
    Calls Try.prog 76 #[v, .func (.func g) #[] lb] w fun e w' => e = .returned (.bool (l.any p)) ∧ Ext w w' := by
  have hI := indexFunc_byte v l w B g lb p hl hB ht
  have HN := Lib.hid (idxF_nonneg p l)
  generalize idxF p l = r at hI HN
  clear ht hl
  go_enter Try.func76, Try.ntmps76
  go_wp2_with (go_at_call 99; refine hI.mono ?_; rintro e w1 ⟨rfl, hx1⟩)
  go_ret
  exact ⟨by rw [← HN.out]; rfl, hx1⟩
end Go.Proofs.Ytmobdmljbbckiaa
