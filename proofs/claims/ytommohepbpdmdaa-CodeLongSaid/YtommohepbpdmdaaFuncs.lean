/- What the library's functions that are handed a function value do: slices.IndexFunc, ContainsFunc, DeleteFunc, at numbers. -/
import Derived.Test.YtommohepbpdmdaaChecked
import Derived.Test.YtommohepbpdmdaaBase
namespace Go.Proofs.Ytommohepbpdmdaa
open Go.RowKit

/-- A function value (function g, bound to lb) that tells of each x in D whether it is so, in every world that below B is as w was; it turns nothing that lies. -/
structure Tells {α : Type} (B : Nat) (w : World) (g : Nat) (lb : Array Value) (arg : α → Value) (p : α → Bool) (D : α → Prop) : Prop where
  enters : ∀ args w, (callFunc g args).run Try.prog w = .ok (.enter g args) w
  tells : ∀ W x, D x → Below B w W → Calls Try.prog g (#[arg x] ++ lb) W fun e w' => e = .returned (.bool (p x)) ∧ Ext W w'

theorem Tells.later {α : Type} {B : Nat} {w w' : World} {g : Nat} {lb : Array Value} {arg : α → Value} {p : α → Bool} {D : α → Prop} (h : Tells B w g lb arg p D) (hb : Below B w w') : Tells B w' g lb arg p D :=
  ⟨h.enters, fun W x hx hW => h.tells W x hx (hb.trans hW)⟩
theorem Tells.mono {α : Type} {B B' : Nat} {w : World} {g : Nat} {lb : Array Value} {arg : α → Value} {p : α → Bool} {D : α → Prop} (h : Tells B w g lb arg p D) (hb : B ≤ B') : Tells B' w g lb arg p D :=
  ⟨h.enters, fun W x hx hW => h.tells W x hx (hW.mono hb)⟩

set_option maxHeartbeats 1600000 in
theorem indexFunc_int (v : Value) (l : List Int) (w : World) (B g : Nat) (lb : Array Value) (p : Int → Bool) (hl : Reads encI w v l) (hB : B ≤ w.heap.size)
    (ht : Tells B w g lb (Value.int .i64) p (· ∈ l)) :
    Calls Try.prog 96 #[v, .func (.func g) #[] lb] w fun e w' => e = .returned (.int .i64 (idxF p l)) ∧ Ext w w' := by
  obtain ⟨a, cap, rfl, hcap, hmax, hcells⟩ := hl
  obtain ⟨eg, hcall⟩ := ht
  unfold maxLen at hmax
  go_enter Try.func96, Try.ntmps96
  go_wp2
  go_loopw [8] (fun jv wr => ∃ j : Nat, jv = .int .i64 j ∧ j ≤ l.length ∧ Hid (∀ i (hi : i < j) (hl : i < l.length), p l[i] = false) ∧ Ext w wr) (fun jv _ => l.length - (intOf jv).toNat)
  case atStart => exact ⟨0, rfl, Nat.zero_le _, (fun i hi => absurd hi (Nat.not_lt_zero _)), Ext.refl _⟩
  case round =>
    obtain ⟨j, rfl, hj, hb, hx⟩ := hrel
    by_cases hlt : j < l.length
    · obtain ⟨b, off, rfl, hc⟩ := hcells (fun h => by simp [h] at hlt)
      have hcx : wr.cell? ⟨b, off + j, none⟩ = some ((Value.int .i64) l[j]) := hx.cell (Reads.one_at (enc1 := (Value.int .i64)) hc hlt)
      have hcl := hcall wr l[j] (List.getElem_mem hlt) (Below.mono hx hB)
      clear hcall hc hcells
      generalize hy : l[j] = y at hcx hcl
      have HY := Lib.hid hy
      clear hy
      cases hp : p y with
      | true =>
        rw [hp] at hcl
        have HC := Lib.hid hcl
        clear hcl
        go_wp2_with (go_at_fn g; refine HC.out.mono ?_; rintro e w1 ⟨rfl, hx1⟩)
        go_ret
        exact ⟨by rw [idxF_hit hlt (by rw [HY.out]; exact hp) (fun i hi => hb.out i hi (by omega))]; rfl, hx.trans hx1⟩
      | false =>
        rw [hp] at hcl
        have HC := Lib.hid hcl
        clear hcl
        go_wp2_with (go_at_fn g; refine HC.out.mono ?_; rintro e w1 ⟨rfl, hx1⟩)
        go_roundw
        case rel =>
          refine ⟨j + 1, vi (by omega), hlt, (fun i hi hl => ?_), hx.trans hx1⟩
          by_cases e : i = j
          · subst e; rw [HY.out]; exact hp
          · exact hb.out i (by omega) hl
        case measure => simp [intOf]; omega
    · have hjl : j = l.length := by omega
      subst hjl
      clear hcall
      go_wp2
      go_ret
      exact ⟨by rw [idxF_miss (fun j hj => hb.out j hj hj)]; rfl, hx⟩

set_option maxHeartbeats 800000 in
theorem containsFunc_int (v : Value) (l : List Int) (w : World) (B g : Nat) (lb : Array Value) (p : Int → Bool) (hl : Reads encI w v l) (hB : B ≤ w.heap.size)
    (ht : Tells B w g lb (Value.int .i64) p (· ∈ l)) :
    Calls Try.prog 83 #[v, .func (.func g) #[] lb] w fun e w' => e = .returned (.bool (l.any p)) ∧ Ext w w' := by
  have hI := indexFunc_int v l w B g lb p hl hB ht
  have HN := Lib.hid (idxF_nonneg p l)
  generalize idxF p l = r at hI HN
  clear ht hl
  go_enter Try.func83, Try.ntmps83
  go_wp2_with (go_at_call 96; refine hI.mono ?_; rintro e w1 ⟨rfl, hx1⟩)
  go_ret
  exact ⟨by rw [← HN.out]; rfl, hx1⟩

set_option maxHeartbeats 1600000 in
theorem indexFunc_byte (v : Value) (l : List UInt8) (w : World) (B g : Nat) (lb : Array Value) (p : UInt8 → Bool) (hl : Reads encB w v l) (hB : B ≤ w.heap.size)
    (ht : Tells B w g lb (fun (b : UInt8) => Value.int .u8 (b.toNat : Int)) p (· ∈ l)) :
    Calls Try.prog 131 #[v, .func (.func g) #[] lb] w fun e w' => e = .returned (.int .i64 (idxF p l)) ∧ Ext w w' := by
  obtain ⟨a, cap, rfl, hcap, hmax, hcells⟩ := hl
  obtain ⟨eg, hcall⟩ := ht
  unfold maxLen at hmax
  go_enter Try.func131, Try.ntmps131
  go_wp2
  go_loopw [8] (fun jv wr => ∃ j : Nat, jv = .int .i64 j ∧ j ≤ l.length ∧ Hid (∀ i (hi : i < j) (hl : i < l.length), p l[i] = false) ∧ Ext w wr) (fun jv _ => l.length - (intOf jv).toNat)
  case atStart => exact ⟨0, rfl, Nat.zero_le _, (fun i hi => absurd hi (Nat.not_lt_zero _)), Ext.refl _⟩
  case round =>
    obtain ⟨j, rfl, hj, hb, hx⟩ := hrel
    by_cases hlt : j < l.length
    · obtain ⟨b, off, rfl, hc⟩ := hcells (fun h => by simp [h] at hlt)
      have hcx : wr.cell? ⟨b, off + j, none⟩ = some ((fun (b : UInt8) => Value.int .u8 (b.toNat : Int)) l[j]) := hx.cell (Reads.one_at (enc1 := (fun (b : UInt8) => Value.int .u8 (b.toNat : Int))) hc hlt)
      have hcl := hcall wr l[j] (List.getElem_mem hlt) (Below.mono hx hB)
      clear hcall hc hcells
      generalize hy : l[j] = y at hcx hcl
      have HY := Lib.hid hy
      clear hy
      cases hp : p y with
      | true =>
        rw [hp] at hcl
        have HC := Lib.hid hcl
        clear hcl
        go_wp2_with (go_at_fn g; refine HC.out.mono ?_; rintro e w1 ⟨rfl, hx1⟩)
        go_ret
        exact ⟨by rw [idxF_hit hlt (by rw [HY.out]; exact hp) (fun i hi => hb.out i hi (by omega))]; rfl, hx.trans hx1⟩
      | false =>
        rw [hp] at hcl
        have HC := Lib.hid hcl
        clear hcl
        go_wp2_with (go_at_fn g; refine HC.out.mono ?_; rintro e w1 ⟨rfl, hx1⟩)
        go_roundw
        case rel =>
          refine ⟨j + 1, vi (by omega), hlt, (fun i hi hl => ?_), hx.trans hx1⟩
          by_cases e : i = j
          · subst e; rw [HY.out]; exact hp
          · exact hb.out i (by omega) hl
        case measure => simp [intOf]; omega
    · have hjl : j = l.length := by omega
      subst hjl
      clear hcall
      go_wp2
      go_ret
      exact ⟨by rw [idxF_miss (fun j hj => hb.out j hj hj)]; rfl, hx⟩

set_option maxHeartbeats 800000 in
theorem containsFunc_byte (v : Value) (l : List UInt8) (w : World) (B g : Nat) (lb : Array Value) (p : UInt8 → Bool) (hl : Reads encB w v l) (hB : B ≤ w.heap.size)
    (ht : Tells B w g lb (fun (b : UInt8) => Value.int .u8 (b.toNat : Int)) p (· ∈ l)) :
    Calls Try.prog 103 #[v, .func (.func g) #[] lb] w fun e w' => e = .returned (.bool (l.any p)) ∧ Ext w w' := by
  have hI := indexFunc_byte v l w B g lb p hl hB ht
  have HN := Lib.hid (idxF_nonneg p l)
  generalize idxF p l = r at hI HN
  clear ht hl
  go_enter Try.func103, Try.ntmps103
  go_wp2_with (go_at_call 131; refine hI.mono ?_; rintro e w1 ⟨rfl, hx1⟩)
  go_ret
  exact ⟨by rw [← HN.out]; rfl, hx1⟩

/-- slices.DeleteFunc on a row of the call's own: what is not struck. -/
theorem zeroInt (w : World) : (zeroValue 3).run Try.prog w = .ok (.int .i64 0) w := by kernel_rfl

set_option maxHeartbeats 1600000 in
set_option maxRecDepth 100000 in
theorem deleteFunc_int (v : Value) (l : List Int) (w : World) (B g : Nat) (lb : Array Value) (p : Int → Bool) (hl : w.ownsRow B 3 1 v l.length (l.flatMap encI)) (hB : B ≤ w.heap.size)
    (ht : Tells B w g lb (Value.int .i64) p (· ∈ l)) :
    Calls Try.prog 51 #[v, .func (.func g) #[] lb] w fun e w' =>
      ∃ v', e = .returned v' ∧ w'.ownsRow B 3 1 v' (l.filter fun x => !p x).length ((l.filter fun x => !p x).flatMap encI) ∧ Below B w w' := by
  have hI := indexFunc_int v l w B g lb p (Reads.of_owns hl) hB ht
  rcases idxF_cases p l with ⟨hm, hall⟩ | ⟨k0, hk0, hm, hpk, hbf⟩
  · rw [hm] at hI
    have hf : (l.filter fun x => !p x) = l := List.filter_eq_self.2 fun x hx => by simp [hall x hx]
    rw [hf]
    have HL := Lib.hid hl
    clear hl ht hall hm
    go_enter Try.func51, Try.ntmps51
    go_wp2_with (go_at_call 96; refine hI.mono ?_; rintro e w1 ⟨rfl, hx1⟩)
    go_ret
    exact ⟨_, rfl, own_ext HL.out hx1, hx1.mono hB⟩
  · rw [hm] at hI
    obtain ⟨eg, hcall⟩ := ht
    have hl' := hl
    obtain ⟨hlen, ⟨rfl, hn⟩ | ⟨gb, cap, cur, rfl, hgB, hh, hcap, hmax, hcs, htk⟩⟩ := hl'
    · omega
    have hstart : l.take k0 = (l.take (k0 + 1)).filter fun x => !p x := by
      rw [List.take_succ_eq_append_getElem hk0, List.filter_append, List.filter_cons, hpk]
      simp only [Bool.not_true, List.filter_nil, List.append_nil, Bool.false_eq_true, if_false]
      symm
      exact List.filter_eq_self.2 fun x hx => by
        obtain ⟨j, hj, rfl⟩ := List.getElem_of_mem hx
        have hjk : j < k0 := by simp at hj; omega
        simp [hbf j hjk]
    have HS := Lib.hid hstart
    have HH := Lib.hid hl
    unfold maxLen at hmax
    clear hm hbf hpk hstart hl hlen hh hcs htk
    have hne1 : ((k0 : Int) == -1) = false := beq_eq_false_iff_ne.2 (by omega)
    go_enter Try.func51, Try.ntmps51
    go_wp2_with (go_at_call 96; refine hI.mono ?_; rintro e w1 ⟨rfl, hx1⟩)
    clear hne1
    go_loopw [5, 6] (fun s5 s6 wr => ∃ (i j : Nat) (ys : List Int), s5 = .int .i64 i ∧ s6 = .int .i64 j ∧ i < j ∧ j ≤ l.length ∧ Hid (ys.length = l.length ∧ ys.take i = ((l.take j).filter fun x => !p x) ∧ ys.drop j = l.drop j ∧
        wr.ownsRow B 3 1 (.slice (some ⟨gb, 0, none⟩) l.length cap) l.length (ys.flatMap encI)) ∧ Below B w wr) (fun _ s6 _ => l.length - (intOf s6).toNat)
    case atStart => exact ⟨k0, k0 + 1, l, rfl, vi (by omega), by omega, by omega, ⟨rfl, HS.out, rfl, own_ext HH.out hx1⟩, hx1.mono hB⟩
    case round =>
      obtain ⟨i, j, ys, rfl, rfl, hij, hjn, HY, hbw⟩ := hrel
      obtain ⟨hy1, hy2, hy3, hown⟩ := HY.out
      obtain ⟨old, hci⟩ : ∃ old, wr.cell? ⟨gb, i, none⟩ = some (.int .i64 old) := ⟨ys[i]'(by omega), by rw [hown.cellAt i (by omega), flat_I]; simp⟩
      have hBw : B ≤ wr.heap.size := Nat.le_trans hB hbw.size
      by_cases hlt : j < l.length
      · have hyj : ys[j]'(by omega) = l[j] := by
          have := congrArg (fun t : List Int => t[0]?) hy3
          simpa [List.getElem?_drop, List.getElem?_eq_getElem, hlt, hy1] using this
        have hcj : wr.cell? ⟨gb, j, none⟩ = some (.int .i64 l[j]) := by
          rw [hown.cellAt j (by omega), flat_I, ← hyj]; simp
        have hcl := hcall wr l[j] (List.getElem_mem hlt) hbw
        have htk : l.take (j + 1) = l.take j ++ [l[j]] := List.take_succ_eq_append_getElem hlt
        have hdr : ys.drop (j + 1) = l.drop (j + 1) := by
          have := congrArg (fun t : List Int => t.drop 1) hy3
          simpa [List.drop_drop] using this
        have HT := Lib.hid htk
        have HD := Lib.hid hdr
        have HO := Lib.hid hown
        clear hy1 hy2 hy3 hown hyj htk hdr hI hx1
        generalize hx : l[j] = x at hcj hcl HT
        have HX := Lib.hid hx
        clear hx hcall
        cases hp : p x with
        | true =>
          rw [hp] at hcl
          have HC := Lib.hid hcl
          clear hcl
          go_wp2_with (go_at_fn g; refine HC.out.mono ?_; rintro e w2 ⟨rfl, hx2⟩)
          go_roundw
          case rel =>
            refine ⟨i, j + 1, ys, rfl, vi (by omega), by omega, hlt, ⟨HY.out.1, ?_, HD.out, own_ext HO.out hx2⟩, Below.ext hbw hx2 hBw⟩
            rw [HT.out, List.filter_append, HY.out.2.1]; simp [hp]
          case measure => simp [intOf]; omega
        | false =>
          rw [hp] at hcl
          have HC := Lib.hid hcl
          clear hcl
          have hkeep : ∀ w2, Ext wr w2 → w2.cell? ⟨gb, i, none⟩ = some (.int .i64 old) ∧ w2.frozen? ⟨gb, i, none⟩ = false := fun w2 hx2 =>
            ⟨hx2.cell hci, (own_ext HO.out hx2).frozenAt i⟩
          go_wp2_with (go_at_fn g; refine HC.out.mono ?_; rintro e w2 ⟨rfl, hx2⟩; obtain ⟨hc2, hf2⟩ := hkeep w2 hx2; clear hkeep)
          go_roundw
          case rel =>
            refine ⟨i + 1, j + 1, ys.set i x, vi (by omega), vi (by omega), by omega, hlt, ⟨by simpa using HY.out.1, ?_, ?_, ?_⟩, (Below.ext hbw hx2 hBw).setCell hgB _⟩
            · have hil : i < ys.length := by rw [HY.out.1]; omega
              rw [HT.out, List.filter_append, ← HY.out.2.1, List.take_succ_eq_append_getElem (by simpa using hil)]
              simp [hp, List.take_set_of_le]
            · rw [List.drop_set_of_lt (by omega)]; exact HD.out
            · have := ((own_ext HO.out hx2).stored i (.int .i64 x)).1
              rw [flat_I] at this ⊢
              rwa [List.map_set]
          case measure => simp [intOf]; omega
      · have hjl : j = l.length := by omega
        subst hjl
        have hcl : ∀ ty, (Builtin.clear_ #[22] ty #[.slice (some ⟨gb, i, none⟩) (l.length - i) (cap - i)]).run Try.prog wr = .ok (.tuple #[]) (wr.setCells gb i (List.replicate (l.length - i) (.int .i64 0))) :=
          fun ty => Lib.run_clear_slice wr _ _ ty _ Try.underlying22 zeroInt rfl rfl gb i _ _ (by omega) (fun t ht => by rw [hown.cellAt (i + t) (by omega), flat_I]; simp; omega) (fun t ht => hown.frozenAt _)
        have HO := Lib.hid hown
        clear hy1 hy2 hy3 hown hI hx1 hcall hci
        go_wp2
        go_ret
        have hff : ys.take i = l.filter fun x => !p x := by have := HY.out.2.1; rwa [List.take_length] at this
        have hlenf : (l.filter fun x => !p x).length = i := by rw [← hff, List.length_take, HY.out.1]; omega
        refine ⟨_, rfl, ?_, below_setCells hgB _ _ _ hbw⟩
        have := own_setCells_past (List.replicate (l.length - i) (.int .i64 0)) i wr (own_cut HO.out (show i ≤ l.length by omega) (by simp)) (by omega)
        rw [hlenf, ← hff]
        rw [flat_I] at this ⊢
        simpa [List.map_take] using this

end Go.Proofs.Ytommohepbpdmdaa
