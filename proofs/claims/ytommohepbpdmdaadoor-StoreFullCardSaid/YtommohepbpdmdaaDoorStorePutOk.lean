/- store.Put of a fresh one that has room. (Under way.) -/
import Derived.Test.YtommohepbpdmdaaDoorStorePut
namespace Go.Proofs.YtommohepbpdmdaaDoor
open Go.RowKit Go.Maps Go.WideMaps Go.ChangeShapes Go.WideShapes
set_option maxHeartbeats 3200000
set_option maxRecDepth 100000

/-- the store's three blocks alone turned, new ones came -/
structure Turned3 (x y z : Nat) (w w' : World) : Prop where
  os : w'.os = w.os
  tape : w'.tape = w.tape
  output : w'.output = w.output
  size : w.heap.size ≤ w'.heap.size
  other : ∀ k, k < w.heap.size → k ≠ x → k ≠ y → k ≠ z → w'.heap[k]? = w.heap[k]?
theorem Turned3.refl (x y z : Nat) (w : World) : Turned3 x y z w w := ⟨rfl, rfl, rfl, Nat.le_refl _, fun _ _ _ _ _ => rfl⟩
theorem Turned3.trans {x y z : Nat} {a b c : World} (h : Turned3 x y z a b) (k : Turned3 x y z b c) : Turned3 x y z a c :=
  ⟨k.os.trans h.os, k.tape.trans h.tape, k.output.trans h.output, Nat.le_trans h.size k.size, fun i hi h1 h2 h3 => (k.other i (Nat.lt_of_lt_of_le hi h.size) h1 h2 h3).trans (h.other i hi h1 h2 h3)⟩
theorem Turned3.of_ext {x y z : Nat} {a b : World} (h : Ext a b) : Turned3 x y z a b := ⟨h.os, h.tape, h.output, h.size, fun i hi _ _ _ => h.block i hi⟩
theorem Turned3.below {x y z B : Nat} {w0 a b : World} (h : Turned3 x y z a b) (h0 : Below B w0 a) (hB : B ≤ a.heap.size) (h1 : B ≤ x) (h2 : B ≤ y) (h3 : B ≤ z) : Below B w0 b :=
  ⟨h.os.trans h0.os, h.tape.trans h0.tape, h.output.trans h0.output, Nat.le_trans h0.size h.size, fun k hk => (h.other k (by omega) (by omega) (by omega) (by omega)).trans (h0.block k hk)⟩

theorem put_ok {w : World} {sb b1 b2 last bytes : Nat} {ids all : List (Value × Value)} (h : StoreAt w sb b1 b2 last bytes ids all) (s : ByteArray) (hs : s.size ≤ 100000) (hby : bytes ≤ 1000000) (hla : last ≤ 1000000) (hal : all.length ≤ 1000000) (hout : ∀ x ∈ ids, x.1 ≠ .string s) (hout2 : ∀ x ∈ all, x.1 ≠ .int .i64 ((last + 1 : Nat) : Int))
    (hroom : all.length + 1 ≤ 300 ∧ bytes + s.size ≤ 60000) :
    Calls Tryd.prog 10 #[.pointer (some ⟨sb, 0, none⟩), .string s] w fun e w' => e = .returned (.tuple #[.int .i64 ((last + 1 : Nat) : Int), .nilIface]) ∧
      StoreAt w' sb b1 b2 (last + 1) (bytes + s.size) (ids ++ [(.string s, .int .i64 ((last + 1 : Nat) : Int))]) (all ++ [(.int .i64 ((last + 1 : Nat) : Int), .string s)]) ∧ Turned3 sb b1 b2 w w' := by
  have ec : ((last + 1 : Nat) : Int) = (last : Int) + 1 := rfl
  rw [ec] at hout2 ⊢
  clear ec
  have hkey := keyOf_string_mk (P := Tryd.prog) Tryd.underlying9 (s := s) (by unfold maxLen; omega)
  have hlk := fun c => h.ids.look_miss (t := 63) Tryd.underlying63 keysS hkey hout (zeroI _) c
  have A := cells_at h.cells
  have hx1 := (Ext.refl w).alloc (.cells #[.string s] 9)
  have hv : Reads encS (w.alloc (.cells #[.string s] 9)) (.slice (some ⟨w.heap.size, 0, none⟩) 1 1) [s] := by
    refine ⟨_, 1, rfl, Nat.le_refl _, by decide, fun _ => ⟨_, 0, rfl, fun i u hi => ?_⟩⟩
    have := cells_new w #[.string s] 9 w.heap.size rfl i u (by simpa [encS] using hi)
    rw [add_plain] at this
    exact this
  have hr := room_fresh (h.ext hx1) s hs hby hal hout _ hv
  have e1 : (decide (all.length + 1 ≤ 300) && decide (bytes + s.size ≤ 60000)) = true := by simp [hroom.1, hroom.2]
  rw [e1] at hr
  have HR := Lib.hid (And.intro hr h)
  clear h hr e1 hv
  go_enter Tryd.func10, Tryd.ntmps10
  go_upto_region 6 with (go_at_call 29; refine HR.out.1.mono ?_; rintro e w2 ⟨rfl, hx2⟩)
  have hS := HR.out.2.ext (hx1.trans hx2)
  have hx := hx1.trans hx2
  clear hx1 hx2 HR hlk A
  have A := cells_at hS.cells
  have fz : ∀ i, w2.frozen? ⟨sb, i, none⟩ = false := fun i => by simp [World.frozen?, hS.cells]
  have hw1 : IntKind.i64.wrap ((last : Int) + 1) = (last : Int) + 1 := IntWalk.i64_in _ (by omega)
  have hw2 : IntKind.i64.wrap ((bytes : Int) + s.size) = (bytes : Int) + s.size := IntWalk.i64_in _ (by omega)
  have HS := Lib.hid hS
  clear hS
  go_upto_region 8 with fail
  have hwS : ∀ W, W = (w2.setCell ⟨sb, 0, none⟩ (.int .i64 ((last : Int) + 1))).setCell ⟨sb, 1, none⟩ (.int .i64 ((bytes : Int) + s.size)) →
      W.heap[sb]? = some (.cells #[.int .i64 ((last : Int) + 1), .int .i64 ((bytes : Int) + s.size), .map (some b1), .map (some b2)] 66) ∧ TurnedAt sb w2 W := by
    rintro W rfl
    have c0 := heap_setCell_same w2 sb 0 _ _ (.int .i64 ((last : Int) + 1)) HS.out.cells
    have c1 := heap_setCell_same _ sb 1 _ _ (.int .i64 ((bytes : Int) + s.size)) c0
    refine ⟨c1, ⟨rfl, rfl, rfl, by simp [World.size_setCell], fun k hk => ?_⟩⟩
    rw [Below.heap_setCell _ _ _ _ hk, Below.heap_setCell _ _ _ _ hk]
  generalize (w2.setCell ⟨sb, 0, none⟩ (.int .i64 ((last : Int) + 1))).setCell ⟨sb, 1, none⟩ (.int .i64 ((bytes : Int) + s.size)) = wS at hwS ⊢
  obtain ⟨hc, ht⟩ := hwS _ rfl
  clear hwS A fz
  have A := InC.cells (w0 := wS) (C := fun W => W.heap[sb]? = some (.cells #[.int .i64 ((last : Int) + 1), .int .i64 ((bytes : Int) + s.size), .map (some b1), .map (some b2)] 66)) hc (fun _ h => h)
  refine wp_region_class (fun W => W.heap[sb]? = some (.cells #[.int .i64 ((last : Int) + 1), .int .i64 ((bytes : Int) + s.size), .map (some b1), .map (some b2)] 66)) [0, 1, 2, 3, 4, 5, 6, 7, 8, 9, 10, 11, 12, 13, 14, 15, 16, 17] [18, 19, 20, 21, 22, 23] (by kernel_rfl) (by kernel_rfl) (fun _ _ h k => heap_ext k h) (hc) ?_
  simp only [List.filterMap_cons, List.filterMap_nil, List.getElem?_cons_succ, List.getElem?_cons_zero]
  repeat (first | ((with_reducible refine wpFr_yes ?hw ?_); (case hw => rfl); intro K hK; go_simp; (first | (refine hK _ ?_; clear hK K) | (apply Exists.intro; refine ⟨fun x => ?_, hK _ ?_⟩; (fail); clear hK K))) | ((with_reducible refine wpFr_not ?hw ?_); (case hw => rfl); intro K hK; go_simp; (refine hK _ ?_; clear hK K)))
  refine wpFr_nil ?_
  have hne := HS.out.ne
  have hids := HS.out.ids.same (ht.other b1 (Ne.symm hne.2.1))
  have hall := HS.out.all.same (ht.other b2 (Ne.symm hne.2.2))
  have hkey2 := keyOf_int_mk (P := Tryd.prog) Tryd.underlying3 (q := .i64) (a := (last : Int) + 1) (WalkArith.wf_i64 (by omega))
  have T0 : Turned3 sb b1 b2 w wS := (Turned3.of_ext hx).trans ⟨ht.os, ht.tape, ht.output, by rw [ht.size]; exact Nat.le_refl _, fun k _ h1 _ _ => ht.other k h1⟩
  refine wpTl_step fun W K hW hK => ?_
  obtain ⟨Wa, st, hrun, hent, hta⟩ := (hids.ext hW).entry_miss (t := 63) Tryd.underlying63 keysS hkey hout (zeroI _)
  go_simp
  have hcA : Wa.heap[sb]? = some (.cells #[.int .i64 ((last : Int) + 1), .int .i64 ((bytes : Int) + s.size), .map (some b1), .map (some b2)] 66) := (hta.other sb hne.2.1).trans (heap_ext hW hc)
  have hallA := (hall.ext hW).same (hta.other b2 (Ne.symm hne.1))
  have T1 : Turned3 sb b1 b2 w Wa := (T0.trans (Turned3.of_ext hW)).trans ⟨hta.os, hta.tape, hta.output, by rw [hta.size]; exact Nat.le_refl _, fun k _ _ h1 _ => hta.other k h1⟩
  refine ⟨hcA, hK _ _ ?_⟩
  clear hK K hrun hta hids hall T0 hc ht hx hW A
  refine wpTl_step (fun W1 K hW1 hK => ?_)
  go_simp
  refine ⟨heap_ext hW1 hcA, hK _ _ ?_⟩
  clear hK K
  refine wpTl_step fun W2 K hW2 hK => ?_
  obtain ⟨Wb, hrun, hmapB, htb⟩ := ((hent.ext hW1).ext hW2).store (P := Tryd.prog) (t := 63) (.int .i64 ((last : Int) + 1))
  go_simp
  have hcB : Wb.heap[sb]? = some (.cells #[.int .i64 ((last : Int) + 1), .int .i64 ((bytes : Int) + s.size), .map (some b1), .map (some b2)] 66) := (htb.other sb hne.2.1).trans (heap_ext hW2 (heap_ext hW1 hcA))
  have hallB := ((hallA.ext hW1).ext hW2).same (htb.other b2 (Ne.symm hne.1))
  have T2 : Turned3 sb b1 b2 w Wb := ((T1.trans (Turned3.of_ext hW1)).trans (Turned3.of_ext hW2)).trans ⟨htb.os, htb.tape, htb.output, by rw [htb.size]; exact Nat.le_refl _, fun k _ _ h1 _ => htb.other k h1⟩
  refine ⟨hcB, hK _ _ ?_⟩
  clear hK K hrun htb hallA T1 hcA hent hW1 hW2
  refine wpTl_step fun W3 K hW3 hK => ?_
  obtain ⟨Wc, st2, hrun, hent, htc⟩ := (hallB.ext hW3).entry_miss (t := 64) Tryd.underlying64 keysI hkey2 hout2 (zeroS _)
  go_simp
  have hcC : Wc.heap[sb]? = some (.cells #[.int .i64 ((last : Int) + 1), .int .i64 ((bytes : Int) + s.size), .map (some b1), .map (some b2)] 66) := (htc.other sb hne.2.2).trans (heap_ext hW3 hcB)
  have hidC := (hmapB.ext hW3).same (htc.other b1 hne.1)
  have T3 : Turned3 sb b1 b2 w Wc := (T2.trans (Turned3.of_ext hW3)).trans ⟨htc.os, htc.tape, htc.output, by rw [htc.size]; exact Nat.le_refl _, fun k _ _ _ h1 => htc.other k h1⟩
  refine ⟨hcC, hK _ _ ?_⟩
  clear hK K hrun htc hallB hmapB T2 hcB hW3
  refine wpTl_step (fun W4 K hW4 hK => ?_)
  go_simp
  refine ⟨heap_ext hW4 hcC, hK _ _ ?_⟩
  clear hK K
  refine wpTl_step fun W5 K hW5 hK => ?_
  obtain ⟨Wd, hrun, hmapD, htd⟩ := ((hent.ext hW4).ext hW5).store (P := Tryd.prog) (t := 64) (.string s)
  go_simp
  have hcD : Wd.heap[sb]? = some (.cells #[.int .i64 ((last : Int) + 1), .int .i64 ((bytes : Int) + s.size), .map (some b1), .map (some b2)] 66) := (htd.other sb hne.2.2).trans (heap_ext hW5 (heap_ext hW4 hcC))
  have hidD := ((hidC.ext hW4).ext hW5).same (htd.other b1 hne.1)
  have T4 : Turned3 sb b1 b2 w Wd := ((T3.trans (Turned3.of_ext hW4)).trans (Turned3.of_ext hW5)).trans ⟨htd.os, htd.tape, htd.output, by rw [htd.size]; exact Nat.le_refl _, fun k _ _ _ h1 => htd.other k h1⟩
  refine ⟨hcD, hK _ _ ?_⟩
  clear hK K hrun htd hidC T3 hcC hent hW4 hW5
  refine wpTl_nil fun x hxx => ?_
  have hcx := heap_ext hxx hcD
  have A := cells_at hcx
  have HF := Lib.hid (And.intro hcx (And.intro (hidD.ext hxx) (And.intro (hmapD.ext hxx) (T4.trans (Turned3.of_ext hxx)))))
  clear hcx hcD hidD hmapD T4 hxx hw1 hw2
  go_wp2
  go_ret2
  exact ⟨rfl, ⟨HF.out.1, HF.out.2.1, HF.out.2.2.1, HS.out.ne⟩, HF.out.2.2.2⟩
end Go.Proofs.YtommohepbpdmdaaDoor
