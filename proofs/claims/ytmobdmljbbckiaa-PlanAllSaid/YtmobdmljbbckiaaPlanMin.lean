/- slices.MinFunc at ints; plan.Order's other closure. -/
import Derived.Test.YtmobdmljbbckiaaIndexInt
import Derived.Test.YtmobdmljbbckiaaPlanPure
namespace Go.Proofs.Ytmobdmljbbckiaa
open Go.RowKit
set_option maxHeartbeats 1600000
set_option maxRecDepth 100000

theorem minFunc_int (v : Value) (l : List Int) (w : World) (g : Nat) (lb : Array Value) (c : Int → Int → Int) (hl : Reads encI w v l) (hne : l ≠ []) (eg : ∀ args w, (callFunc g args).run Try.prog w = .ok (.enter g args) w)
    (hc : ∀ W i k, i ∈ l → k ∈ l → Ext w W → Calls Try.prog g (#[.int .i64 i, .int .i64 k] ++ lb) W fun e w' => e = .returned (.int .i64 (c i k)) ∧ Ext W w') :
    Calls Try.prog 24 #[v, .func (.func g) #[] lb] w fun e w' => e = .returned (.int .i64 (minL c l)) ∧ Ext w w' := by
  obtain ⟨a, cap, rfl, hcap, hmax, hcells⟩ := hl
  unfold maxLen at hmax
  obtain ⟨b, off, rfl, hcs⟩ := hcells hne
  cases l with
  | nil => exact absurd rfl hne
  | cons x r =>
    have hat : ∀ j (h : j < (x :: r).length), w.cell? ⟨b, off + j, none⟩ = some (.int .i64 (x :: r)[j]) := fun j h => Reads.int_at hcs h
    have h0 : w.cell? ⟨b, off, none⟩ = some (.int .i64 x) := hat 0 (by simp)
    have hmem := minFrom_mem c
    have hsn := minFrom_snoc c x
    show Calls Try.prog 24 _ w fun e w' => e = .returned (.int .i64 (minFrom c x r)) ∧ Ext w w'
    have HA := Lib.hid (And.intro hat (And.intro hmem (And.intro hsn hc)))
    have hlen : (x :: r).length = r.length + 1 := rfl
    rw [hlen] at hcap ⊢
    have k1 : ¬ ((r.length + 1 : Nat) : Int) < 1 := by omega
    have k2 : (0 : Int) < ((r.length + 1 : Nat) : Int) := by omega
    have k3 : 0 < r.length + 1 := by omega
    clear hat hmem hsn hc hcs hcells hlen hne
    go_enter Try.func24, Try.ntmps24
    go_wp2
    go_loopw [5, 6] (fun mv iv wr => ∃ j : Nat, iv = .int .i64 ((j : Int) + 1) ∧ j ≤ r.length ∧ mv = .int .i64 (minFrom c x (r.take j)) ∧ Ext w wr) (fun _ iv _ => r.length + 1 - (intOf iv).toNat)
    case atStart => exact ⟨0, rfl, Nat.zero_le _, rfl, Ext.refl _⟩
    case round =>
      obtain ⟨j, rfl, hj, rfl, hx⟩ := hrel
      clear k1 k2 k3
      by_cases hlt : j < r.length
      · have hcj : wr.cell? ⟨b, off + (j + 1), none⟩ = some (.int .i64 r[j]) := hx.cell (HA.out.1 (j + 1) (by simp; omega))
        have hst : r.take (j + 1) = r.take j ++ [r[j]] := List.take_succ_eq_append_getElem hlt
        have hm1 : minFrom c x (r.take j) ∈ x :: r := by
          rcases HA.out.2.1 (r.take j) x with e | e
          · rw [e]; exact List.mem_cons_self ..
          · exact List.mem_cons_of_mem _ (List.mem_of_mem_take e)
        have hcc := fun W (hW : Ext wr W) => HA.out.2.2.2 W r[j] _ (List.mem_cons_of_mem _ (List.getElem_mem hlt)) hm1 (hx.trans hW)
        have hs2 := HA.out.2.2.1 (r.take j) r[j]
        rw [← hst] at hs2
        clear hst hm1
        generalize r[j] = y at hcj hcc hs2
        generalize minFrom c x (r.take j) = m at hcc hs2 ⊢
        have z1 : (0 : Int) ≤ (j : Int) + 1 := by omega
        have z2 : (j : Int) + 1 < ((r.length + 1 : Nat) : Int) := by omega
        have z3 : ((j : Int) + 1).toNat = j + 1 := by omega
        have z4 : IntKind.i64.wrap ((j : Int) + 1 + 1) = (j : Int) + 1 + 1 := IntWalk.i64_in _ (by omega)
        generalize c y m = q at hcc hs2
        have HC := Lib.hid (And.intro hcc hs2)
        clear hcc hs2
        by_cases hq : q < 0
        · go_wp2_with (go_at_fn g; refine (HC.out.1 _ (Ext.refl _)).mono ?_; rintro e w1 ⟨rfl, hx1⟩; have hd := hx1.cell hcj)
          go_roundw
          case rel => exact ⟨j + 1, vi (by omega), hlt, by rw [HC.out.2, if_pos hq], hx.trans hx1⟩
          case measure => simp [intOf]; omega
        · go_wp2_with (go_at_fn g; refine (HC.out.1 _ (Ext.refl _)).mono ?_; rintro e w1 ⟨rfl, hx1⟩; have hd := hx1.cell hcj)
          go_roundw
          case rel => exact ⟨j + 1, vi (by omega), hlt, by rw [HC.out.2, if_neg (by omega)], hx.trans hx1⟩
          case measure => simp [intOf]; omega
      · have hjl : j = r.length := by omega
        subst hjl
        rw [List.take_length]
        go_wp2
        go_ret
        exact ⟨rfl, hx⟩

theorem plan2_any (k i : Int) (b : Nat) (W : World) (hb : W.cell? ⟨b, 0, none⟩ = some (.int .i64 i)) :
    Calls Try.prog 32 #[.int .i64 k, .pointer (some ⟨b, 0, none⟩)] W fun e w' => e = .returned (.bool (decide (k = i))) ∧ Ext W w' := by
  go_enter Try.func32, Try.ntmps32
  go_wp2
  go_ret
  exact ⟨by simp [BEq.beq], Ext.refl _⟩
end Go.Proofs.Ytmobdmljbbckiaa
