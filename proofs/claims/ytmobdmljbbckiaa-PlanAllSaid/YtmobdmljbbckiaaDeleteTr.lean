/- slices.DeleteFunc at triples. -/
import Derived.Test.YtmobdmljbbckiaaFuncsTr
import Derived.Test.YtmobdmljbbckiaaRegion
namespace Go.Proofs.Ytmobdmljbbckiaa
open Go.RowKit
set_option maxHeartbeats 6400000
set_option maxRecDepth 100000

theorem zeroTr (w : World) : (zeroValue 82).run Try.prog w = .ok (vTr default) w := by kernel_rfl

theorem zero_one : ∀ m, m < 9 → ((vTr default).cells[m]!).oneCell' = true := by decide +kernel

theorem run_clear_tr (w : World) (ty : TypeId) (b o n c : Nat) (hn : 0 < n) (hc : ∀ j, j < n * 9 → (w.cell? ⟨b, o + j, none⟩).isSome = true) (hf : ∀ j, j < n * 9 → w.frozen? ⟨b, o + j, none⟩ = false) :
    (Builtin.clear_ #[22] ty #[.slice (some ⟨b, o, none⟩) n c]).run Try.prog w = .ok (.tuple #[]) (w.setCells b o (Builtin.zeroCells (vTr default).cells n).toList) := by
  have hlen : (Builtin.zeroCells (vTr default).cells n).toList.length = n * 9 := by rw [Array.length_toList, size_zeroCells]; rfl
  have hst := run_storeCells_cells (P := Try.prog) b o (Builtin.zeroCells (vTr default).cells n).toList 0 w (by rw [hlen]; simpa using hc) (by rw [hlen]; simpa using hf) (by
    intro v hv'
    simp [Builtin.zeroCells] at hv'
    obtain ⟨a, _, rfl⟩ := hv'
    exact zero_one _ (Nat.mod_lt _ (by decide)))
  simp only [Nat.add_zero] at hst
  obtain ⟨m, rfl⟩ : ∃ m, n = m + 1 := ⟨n - 1, by omega⟩
  have hv := zeroTr
  have ht := Try.underlying22
  simp [Builtin.clear_, run_underlying ht, hv, hst]

theorem flat_take {α : Type} {enc : α → List Value} {k : Nat} (hk : ∀ x, (enc x).length = k) : ∀ (l : List α) (i : Nat), (l.take i).flatMap enc = (l.flatMap enc).take (i * k)
  | [], i => by simp
  | x :: l, 0 => by simp
  | x :: l, i + 1 => by
    rw [List.take_succ_cons, List.flatMap_cons, List.flatMap_cons, flat_take hk l i, List.take_append, hk, show (i + 1) * k - k = i * k by rw [Nat.add_mul]; omega, List.take_of_length_le (l := enc x) (by rw [hk, Nat.add_mul]; omega)]

theorem deleteFunc_tr (v : Value) (l : List Tr) (w : World) (B g : Nat) (lb : Array Value) (p : Tr → Bool) (hl : w.ownsRow B 82 9 v l.length (l.flatMap encTr)) (hB : B ≤ w.heap.size)
    (ht : Tells B w g lb vTr p (· ∈ l)) :
    Calls Try.prog 65 #[v, .func (.func g) #[] lb] w fun e w' =>
      ∃ v', e = .returned v' ∧ w'.ownsRow B 82 9 v' (l.filter fun x => !p x).length ((l.filter fun x => !p x).flatMap encTr) ∧ Below B w w' := by
  have hI := indexFunc_tr v l w B g lb p (Reads.of_owns hl) hB ht
  rcases idxF_cases p l with ⟨hm, hall⟩ | ⟨k0, hk0, hm, hpk, hbf⟩
  · rw [hm] at hI
    have hf : (l.filter fun x => !p x) = l := List.filter_eq_self.2 fun x hx => by simp [hall x hx]
    rw [hf]
    have HL := Lib.hid hl
    clear hl ht hall hm
    go_enter Try.func65, Try.ntmps65
    go_wp2_with (go_at_call 94; refine hI.mono ?_; rintro e w1 ⟨rfl, hx1⟩)
    go_ret
    exact ⟨_, rfl, own_ext HL.out hx1, hx1.mono hB⟩
  · rw [hm] at hI
    obtain ⟨eg, hcall⟩ := ht
    have hl' := hl
    obtain ⟨hlen, ⟨rfl, hn⟩ | ⟨gb, cap, cur, rfl, hgB, hh, hcap, hmax, hcs, htk⟩⟩ := hl'
    · omega
    have hstart : l.take k0 = (l.take (k0 + 1)).filter fun x => !p x := by
      rw [List.take_succ_eq_append_getElem hk0, List.filter_append, List.filter_cons, hpk]
      simp only [Bool.not_true, List.filter_nil, List.append_nil, Bool.false_eq_true, if_false]
      symm
      exact List.filter_eq_self.2 fun x hx => by
        obtain ⟨j, hj, rfl⟩ := List.getElem_of_mem hx
        have hjk : j < k0 := by simp at hj; omega
        simp [hbf j hjk]
    have HS := Lib.hid hstart
    have HH := Lib.hid hl
    unfold maxLen at hmax
    clear hm hbf hpk hstart hl hlen hh hcs htk
    have hne1 : ((k0 : Int) == -1) = false := beq_eq_false_iff_ne.2 (by omega)
    go_enter Try.func65, Try.ntmps65
    go_wp2_with (go_at_call 94; refine hI.mono ?_; rintro e w1 ⟨rfl, hx1⟩)
    clear hne1
    go_loopw [5, 6] (fun s5 s6 wr => ∃ (i j : Nat) (ys : List Tr), s5 = .int .i64 i ∧ s6 = .int .i64 j ∧ i < j ∧ j ≤ l.length ∧ Hid (ys.length = l.length ∧ ys.take i = ((l.take j).filter fun x => !p x) ∧ ys.drop j = l.drop j ∧
        wr.ownsRow B 82 9 (.slice (some ⟨gb, 0, none⟩) l.length cap) l.length (ys.flatMap encTr)) ∧ Below B w wr) (fun _ s6 _ => l.length - (intOf s6).toNat)
    case atStart => exact ⟨k0, k0 + 1, l, rfl, vi (by omega), by omega, by omega, ⟨rfl, HS.out, rfl, own_ext HH.out hx1⟩, hx1.mono hB⟩
    case round =>
      obtain ⟨i, j, ys, rfl, rfl, hij, hjn, HY, hbw⟩ := hrel
      obtain ⟨hy1, hy2, hy3, hown⟩ := HY.out
      have hBw : B ≤ wr.heap.size := Nat.le_trans hB hbw.size
      have hrow : ∀ t u, (ys.flatMap encTr)[t]? = some u → wr.cell? ⟨gb, 0 + t, none⟩ = some u := fun t u htu => by
        have hlt := (List.getElem?_eq_some_iff.1 htu).1
        rw [Nat.zero_add, hown.cellAt t (by rw [flat_len encTr_len, hy1] at hlt; exact hlt), htu]
      by_cases hlt : j < l.length
      · have hyj : ys[j]'(by omega) = l[j] := by
          have := congrArg (fun t : List Tr => t[0]?) hy3
          simpa [List.getElem?_drop, List.getElem?_eq_getElem, hlt, hy1] using this
        obtain ⟨d0, d1, d2, d3, d4, d5, d6, d7, d8⟩ := Tr.cells hrow (k := j) (by omega)
        obtain ⟨e0, e1, e2, e3, e4, e5, e6, e7, e8⟩ := Tr.cells hrow (k := i) (by omega)
        rw [hyj] at d0 d1 d2 d3 d4 d5 d6 d7 d8
        simp only [Nat.zero_add] at d0 d1 d2 d3 d4 d5 d6 d7 d8 e0 e1 e2 e3 e4 e5 e6 e7 e8
        have hcl : ∀ W, Ext wr W → Calls Try.prog g (#[vTr l[j]] ++ lb) W fun e w' => e = .returned (.bool (p l[j])) ∧ Ext W w' ∧ Ext wr w' := fun W hW => (hcall W l[j] (List.getElem_mem hlt) (Below.ext hbw hW hBw)).mono fun e w' ⟨h1, h2⟩ => ⟨h1, h2, hW.trans h2⟩
        have htk : l.take (j + 1) = l.take j ++ [l[j]] := List.take_succ_eq_append_getElem hlt
        have hdr : ys.drop (j + 1) = l.drop (j + 1) := by
          have := congrArg (fun t : List Tr => t.drop 1) hy3
          simpa [List.drop_drop] using this
        have HT := Lib.hid htk
        have HD := Lib.hid hdr
        have HO := Lib.hid hown
        generalize ys[i]'(by omega) = old at e0 e1 e2 e3 e4 e5 e6 e7 e8
        clear hy1 hy2 hy3 hown hyj htk hdr hI hx1 hrow
        generalize hx : l[j] = x at d0 d1 d2 d3 d4 d5 d6 d7 d8 hcl HT
        have HX := Lib.hid hx
        clear hx hcall
        obtain ⟨⟨k1, s1, g1⟩, ⟨k2, s2, g2⟩, ⟨k3, s3, g3⟩⟩ := x
        dsimp only at *
        cases hp : p ⟨⟨k1, s1, g1⟩, ⟨k2, s2, g2⟩, ⟨k3, s3, g3⟩⟩ with
        | true =>
          rw [hp] at hcl
          have HC := Lib.hid hcl
          have HP := Lib.hid hp
          clear hcl hp e0 e1 e2 e3 e4 e5 e6 e7 e8
          go_wp2_with (go_at_fn g; refine (HC.out _ ((Ext.refl wr).alloc _)).mono ?_; rintro e w2 ⟨rfl, hxb, hx2⟩)
          go_roundw
          case rel =>
            refine ⟨i, j + 1, ys, rfl, vi (by omega), by omega, hlt, ⟨HY.out.1, ?_, HD.out, own_ext HO.out hx2⟩, Below.ext hbw hx2 hBw⟩
            rw [HT.out, List.filter_append, HY.out.2.1]; simp [HP.out]
          case measure => simp [intOf]; omega
        | false =>
          rw [hp] at hcl
          have HC := Lib.hid hcl
          have HP := Lib.hid hp
          clear hcl hp
          have HE := Lib.hid (And.intro e0 (And.intro e1 (And.intro e2 (And.intro e3 (And.intro e4 (And.intro e5 (And.intro e6 (And.intro e7 e8))))))))
          clear e0 e1 e2 e3 e4 e5 e6 e7 e8
          have hbox := fun W (hW : Ext (wr.alloc (.cells #[.int .i64 k1, .string s1, .string g1, .int .i64 k2, .string s2, .string g2, .int .i64 k3, .string s3, .string g3] 82)) W) => cells_at (heap_ext hW (alloc_heap_new wr (.cells #[.int .i64 k1, .string s1, .string g1, .int .i64 k2, .string s2, .string g2, .int .i64 k3, .string s3, .string g3] 82)))
          go_upto_region 9 with (go_at_fn g; refine (HC.out _ ((Ext.refl wr).alloc _)).mono ?_; rintro e w2 ⟨rfl, hxb, hx2⟩)
          have A8 := hbox _ hxb
          have hown2 := own_ext HO.out hx2
          have fz : ∀ t, w2.frozen? ⟨gb, t, none⟩ = false := fun t => hown2.frozenAt t
          obtain ⟨e0, e1, e2, e3, e4, e5, e6, e7, e8⟩ := HE.out
          have f0 := hx2.cell e0
          have f1 := hx2.cell e1
          have f2 := hx2.cell e2
          have f3 := hx2.cell e3
          have f4 := hx2.cell e4
          have f5 := hx2.cell e5
          have f6 := hx2.cell e6
          have f7 := hx2.cell e7
          have f8 := hx2.cell e8
          clear e0 e1 e2 e3 e4 e5 e6 e7 e8 d0 d1 d2 d3 d4 d5 d6 d7 d8 hbox HE hxb
          have HW := Lib.hid hown2
          clear hown2
          go_wp2
          go_roundw
          case rel =>
            refine ⟨i + 1, j + 1, ys.set i ⟨⟨k1, s1, g1⟩, ⟨k2, s2, g2⟩, ⟨k3, s3, g3⟩⟩, vi (by omega), vi (by omega), by omega, hlt, ⟨by simpa using HY.out.1, ?_, ?_, ?_⟩, ?_⟩
            · have hil : i < ys.length := by rw [HY.out.1]; omega
              rw [HT.out, List.filter_append, ← HY.out.2.1, List.take_succ_eq_append_getElem (by simpa using hil)]
              simp [HP.out, List.take_set_of_le]
            · rw [List.drop_set_of_lt (by omega)]; exact HD.out
            · have := own_setCells (encTr ⟨⟨k1, s1, g1⟩, ⟨k2, s2, g2⟩, ⟨k3, s3, g3⟩⟩) (i * 9) _ _ HW.out
              rw [flat_set encTr_len _ _ (by rw [HY.out.1]; omega)] at this
              exact this
            · exact below_setCells hgB (encTr ⟨⟨k1, s1, g1⟩, ⟨k2, s2, g2⟩, ⟨k3, s3, g3⟩⟩) (i * 9) _ (Below.ext hbw hx2 hBw)
          case measure => simp [intOf]; omega
      · have hjl : j = l.length := by omega
        subst hjl
        have hclr : ∀ ty, (Builtin.clear_ #[22] ty #[.slice (some ⟨gb, i * 9, none⟩) (l.length - i) (cap - i)]).run Try.prog wr = .ok (.tuple #[]) (wr.setCells gb (i * 9) (Builtin.zeroCells (vTr default).cells (l.length - i)).toList) :=
          fun ty => run_clear_tr wr ty gb (i * 9) _ _ (by omega) (fun t ht => by rw [hown.cellAt (i * 9 + t) (by omega), List.getElem?_eq_getElem (by rw [flat_len encTr_len, hy1]; omega)]; rfl) (fun t ht => hown.frozenAt _)
        have HO := Lib.hid hown
        clear hy1 hy2 hy3 hown hI hx1 hcall hrow
        go_wp2
        go_ret
        have hff : ys.take i = l.filter fun x => !p x := by have := HY.out.2.1; rwa [List.take_length] at this
        have hlenf : (l.filter fun x => !p x).length = i := by rw [← hff, List.length_take, HY.out.1]; omega
        refine ⟨_, rfl, ?_, below_setCells hgB _ _ _ hbw⟩
        have := own_setCells_past (Builtin.zeroCells (vTr default).cells (l.length - i)).toList (i * 9) wr (own_cut HO.out (show i ≤ l.length by omega) (by simp)) (by omega)
        rw [hlenf, ← hff, flat_take encTr_len]
        exact this
end Go.Proofs.Ytmobdmljbbckiaa
