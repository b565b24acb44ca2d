/- slices.DeleteFunc at ints, told by what it turns: its slice's own block alone. -/
import Derived.Test.YtmobdmljbbckiaaIndexInt
namespace Go.Proofs.Ytmobdmljbbckiaa
open Go.RowKit
theorem grown_of_ext {w w' : World} (h : Ext w w') (row : Option Nat) : w.grownBy w' row := ⟨h.os, h.tape, h.output, h.size, fun k hk _ => h.block k hk⟩
theorem grown_trans {a b c : World} {row : Option Nat} (h : a.grownBy b row) (k : b.grownBy c row) : a.grownBy c row := ⟨k.os.trans h.os, k.tape.trans h.tape, k.output.trans h.output, Nat.le_trans h.size k.size, fun i hi hn => (k.block i (Nat.lt_of_lt_of_le hi h.size) hn).trans (h.block i hi hn)⟩
theorem grown_setCell (w : World) (g i : Nat) (v : Value) : w.grownBy (w.setCell ⟨g, i, none⟩ v) (some g) :=
  ⟨rfl, rfl, rfl, by show w.heap.size ≤ (w.heap.modify _ _).size; rw [Array.size_modify]; exact Nat.le_refl _, fun k _ hk => Below.heap_setCell _ _ _ k (fun e => hk (by rw [e]))⟩
theorem grown_setCells (g : Nat) : ∀ (vs : List Value) (s : Nat) (w : World), w.grownBy (w.setCells g s vs) (some g)
  | [], _, _ => ⟨rfl, rfl, rfl, Nat.le_refl _, fun _ _ _ => rfl⟩
  | v :: vs, s, w => grown_trans (grown_setCell w g s v) (grown_setCells g vs (s + 1) _)

set_option maxHeartbeats 1600000 in
set_option maxRecDepth 100000 in
theorem deleteFunc_intG (v : Value) (l : List Int) (w : World) (B g : Nat) (lb : Array Value) (p : Int → Bool) (hl : w.ownsRow B 3 1 v l.length (l.flatMap encI)) 
    (eg : ∀ args w, (callFunc g args).run Try.prog w = .ok (.enter g args) w) (hcall : ∀ W x, x ∈ l → w.grownBy W v.ownBlock → Calls Try.prog g (#[.int .i64 x] ++ lb) W fun e w' => e = .returned (.bool (p x)) ∧ Ext W w') :
    Calls Try.prog 31 #[v, .func (.func g) #[] lb] w fun e w' =>
      ∃ v', e = .returned v' ∧ w'.ownsRow B 3 1 v' (l.filter fun x => !p x).length ((l.filter fun x => !p x).flatMap encI) ∧ w.grownBy w' v.ownBlock ∧ v'.ownBlock = v.ownBlock := by
  have hI := indexFunc_int v l w w.heap.size g lb p (Reads.of_owns hl) (Nat.le_refl _) ⟨eg, fun W x hx hW => hcall W x hx (grown_of_ext hW _)⟩
  rcases idxF_cases p l with ⟨hm, hall⟩ | ⟨k0, hk0, hm, hpk, hbf⟩
  · rw [hm] at hI
    have hf : (l.filter fun x => !p x) = l := List.filter_eq_self.2 fun x hx => by simp [hall x hx]
    rw [hf]
    have HL := Lib.hid hl
    clear hl hcall hall hm
    go_enter Try.func31, Try.ntmps31
    go_wp2_with (go_at_call 69; refine hI.mono ?_; rintro e w1 ⟨rfl, hx1⟩)
    go_ret
    exact ⟨_, rfl, own_ext HL.out hx1, grown_of_ext hx1 _, rfl⟩
  · rw [hm] at hI
    have hl' := hl
    obtain ⟨hlen, ⟨rfl, hn⟩ | ⟨gb, cap, cur, rfl, hgB, hh, hcap, hmax, hcs, htk⟩⟩ := hl'
    · omega
    have hstart : l.take k0 = (l.take (k0 + 1)).filter fun x => !p x := by
      rw [List.take_succ_eq_append_getElem hk0, List.filter_append, List.filter_cons, hpk]
      simp only [Bool.not_true, List.filter_nil, List.append_nil, Bool.false_eq_true, if_false]
      symm
      exact List.filter_eq_self.2 fun x hx => by
        obtain ⟨j, hj, rfl⟩ := List.getElem_of_mem hx
        have hjk : j < k0 := by simp at hj; omega
        simp [hbf j hjk]
    have HS := Lib.hid hstart
    have HH := Lib.hid hl
    unfold maxLen at hmax
    clear hm hbf hpk hstart hl hlen hh hcs htk
    have hne1 : ((k0 : Int) == -1) = false := beq_eq_false_iff_ne.2 (by omega)
    go_enter Try.func31, Try.ntmps31
    go_wp2_with (go_at_call 69; refine hI.mono ?_; rintro e w1 ⟨rfl, hx1⟩)
    clear hne1
    go_loopw [5, 6] (fun s5 s6 wr => ∃ (i j : Nat) (ys : List Int), s5 = .int .i64 i ∧ s6 = .int .i64 j ∧ i < j ∧ j ≤ l.length ∧ Hid (ys.length = l.length ∧ ys.take i = ((l.take j).filter fun x => !p x) ∧ ys.drop j = l.drop j ∧
        wr.ownsRow B 3 1 (.slice (some ⟨gb, 0, none⟩) l.length cap) l.length (ys.flatMap encI)) ∧ w.grownBy wr (some gb)) (fun _ s6 _ => l.length - (intOf s6).toNat)
    case atStart => exact ⟨k0, k0 + 1, l, rfl, vi (by omega), by omega, by omega, ⟨rfl, HS.out, rfl, own_ext HH.out hx1⟩, grown_of_ext hx1 _⟩
    case round =>
      obtain ⟨i, j, ys, rfl, rfl, hij, hjn, HY, hbw⟩ := hrel
      obtain ⟨hy1, hy2, hy3, hown⟩ := HY.out
      obtain ⟨old, hci⟩ : ∃ old, wr.cell? ⟨gb, i, none⟩ = some (.int .i64 old) := ⟨ys[i]'(by omega), by rw [hown.cellAt i (by omega), flat_I]; simp⟩
      by_cases hlt : j < l.length
      · have hyj : ys[j]'(by omega) = l[j] := by
          have := congrArg (fun t : List Int => t[0]?) hy3
          simpa [List.getElem?_drop, List.getElem?_eq_getElem, hlt, hy1] using this
        have hcj : wr.cell? ⟨gb, j, none⟩ = some (.int .i64 l[j]) := by
          rw [hown.cellAt j (by omega), flat_I, ← hyj]; simp
        have hcl := hcall wr l[j] (List.getElem_mem hlt) hbw
        have htk : l.take (j + 1) = l.take j ++ [l[j]] := List.take_succ_eq_append_getElem hlt
        have hdr : ys.drop (j + 1) = l.drop (j + 1) := by
          have := congrArg (fun t : List Int => t.drop 1) hy3
          simpa [List.drop_drop] using this
        have HT := Lib.hid htk
        have HD := Lib.hid hdr
        have HO := Lib.hid hown
        clear hy1 hy2 hy3 hown hyj htk hdr hI hx1
        generalize hx : l[j] = x at hcj hcl HT
        have HX := Lib.hid hx
        clear hx hcall
        cases hp : p x with
        | true =>
          rw [hp] at hcl
          have HC := Lib.hid hcl
          clear hcl
          go_wp2_with (go_at_fn g; refine HC.out.mono ?_; rintro e w2 ⟨rfl, hx2⟩)
          go_roundw
          case rel =>
            refine ⟨i, j + 1, ys, rfl, vi (by omega), by omega, hlt, ⟨HY.out.1, ?_, HD.out, own_ext HO.out hx2⟩, grown_trans hbw (grown_of_ext hx2 _)⟩
            rw [HT.out, List.filter_append, HY.out.2.1]; simp [hp]
          case measure => simp [intOf]; omega
        | false =>
          rw [hp] at hcl
          have HC := Lib.hid hcl
          clear hcl
          have hkeep : ∀ w2, Ext wr w2 → w2.cell? ⟨gb, i, none⟩ = some (.int .i64 old) ∧ w2.frozen? ⟨gb, i, none⟩ = false := fun w2 hx2 =>
            ⟨hx2.cell hci, (own_ext HO.out hx2).frozenAt i⟩
          go_wp2_with (go_at_fn g; refine HC.out.mono ?_; rintro e w2 ⟨rfl, hx2⟩; obtain ⟨hc2, hf2⟩ := hkeep w2 hx2; clear hkeep)
          go_roundw
          case rel =>
            refine ⟨i + 1, j + 1, ys.set i x, vi (by omega), vi (by omega), by omega, hlt, ⟨by simpa using HY.out.1, ?_, ?_, ?_⟩, grown_trans (grown_trans hbw (grown_of_ext hx2 _)) (grown_setCell _ _ _ _)⟩
            · have hil : i < ys.length := by rw [HY.out.1]; omega
              rw [HT.out, List.filter_append, ← HY.out.2.1, List.take_succ_eq_append_getElem (by simpa using hil)]
              simp [hp, List.take_set_of_le]
            · rw [List.drop_set_of_lt (by omega)]; exact HD.out
            · have := ((own_ext HO.out hx2).stored i (.int .i64 x)).1
              rw [flat_I] at this ⊢
              rwa [List.map_set]
          case measure => simp [intOf]; omega
      · have hjl : j = l.length := by omega
        subst hjl
        have hcl : ∀ ty, (Builtin.clear_ #[34] ty #[.slice (some ⟨gb, i, none⟩) (l.length - i) (cap - i)]).run Try.prog wr = .ok (.tuple #[]) (wr.setCells gb i (List.replicate (l.length - i) (.int .i64 0))) :=
          fun ty => Lib.run_clear_slice wr _ _ ty _ Try.underlying34 zeroInt rfl rfl gb i _ _ (by omega) (fun t ht => by rw [hown.cellAt (i + t) (by omega), flat_I]; simp; omega) (fun t ht => hown.frozenAt _)
        have HO := Lib.hid hown
        clear hy1 hy2 hy3 hown hI hx1 hcall hci
        go_wp2
        go_ret
        have hff : ys.take i = l.filter fun x => !p x := by have := HY.out.2.1; rwa [List.take_length] at this
        have hlenf : (l.filter fun x => !p x).length = i := by rw [← hff, List.length_take, HY.out.1]; omega
        refine ⟨_, rfl, ?_, grown_trans hbw (grown_setCells _ _ _ _), rfl⟩
        have := own_setCells_past (List.replicate (l.length - i) (.int .i64 0)) i wr (own_cut HO.out (show i ≤ l.length by omega) (by simp)) (by omega)
        rw [hlenf, ← hff]
        rw [flat_I] at this ⊢
        simpa [List.map_take] using this

end Go.Proofs.Ytmobdmljbbckiaa
