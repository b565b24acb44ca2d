/- The laws' own makers: name, text. -/
import Derived.Test.YtmobdmljbbckiaaTermPure
import Derived.Test.YtmobdmljbbckiaaErrs
import Derived.Test.YtmobdmljbbckiaaRegion
namespace Go.Proofs.Ytmobdmljbbckiaa
open Go.RowKit
set_option maxHeartbeats 1600000
set_option maxRecDepth 100000


theorem name_any (s : ByteArray) (w : World) : Calls Try.prog 7 #[.string s] w fun e w' => e = .returned (vTm ⟨1, s, noText⟩) ∧ Ext w w' := by
  go_enter Try.func7, Try.ntmps7
  go_wp2
  (try simp only [Exit.inBlock, Exit.then])
  refine bodyPost_ret (v := vTm ⟨1, s, noText⟩) (results_cell rfl rfl ?_) rfl ?_
  · go_simp
  · exact ⟨rfl, (Ext.refl w).alloc _⟩

/-- two letters of a number -/
def textOf (n : Nat) : ByteArray := ⟨#[UInt8.ofNat (97 + n / 26 % 26), UInt8.ofNat (97 + n % 26)]⟩
def textTm (n : Nat) : Tm := ⟨3, textOf n, noText⟩

theorem abc_at : ∀ a, a < 26 → (⟨#[97, 98, 99, 100, 101, 102, 103, 104, 105, 106, 107, 108, 109, 110, 111, 112, 113, 114, 115, 116, 117, 118, 119, 120, 121, 122]⟩ : ByteArray).extract a (a + 1) = ⟨#[UInt8.ofNat (97 + a)]⟩ := by decide +kernel

theorem text_any (n : Nat) (hn : n ≤ 100000) (w : World) : Calls Try.prog 21 #[.int .i64 n] w fun e w' => e = .returned (vTm (textTm n)) ∧ Ext w w' := by
  have ha : n / 26 % 26 < 26 := Nat.mod_lt _ (by decide)
  have hb : n % 26 < 26 := Nat.mod_lt _ (by decide)
  have e1 : (n : Int) / 26 % 26 = ((n / 26 % 26 : Nat) : Int) := by omega
  have e2 : (n : Int) % 26 = ((n % 26 : Nat) : Int) := by omega
  have hT : textTm n = ⟨3, ⟨#[UInt8.ofNat (97 + n / 26 % 26), UInt8.ofNat (97 + n % 26)]⟩, noText⟩ := rfl
  obtain ⟨a, hA⟩ : ∃ a, a = n / 26 % 26 := ⟨_, rfl⟩
  obtain ⟨b, hB⟩ : ∃ b, b = n % 26 := ⟨_, rfl⟩
  rw [← hA, ← hB] at hT
  rw [← hA] at e1 ha
  rw [← hB] at e2 hb
  rw [hT]
  clear hT hA hB
  obtain ⟨tx, htx⟩ : ∃ tx : ByteArray, tx = ⟨#[UInt8.ofNat (97 + a), UInt8.ofNat (97 + b)]⟩ := ⟨_, rfl⟩
  rw [← htx]
  have HT := Lib.hid htx
  clear htx
  go_enter Try.func21, Try.ntmps21
  go_wp2
  rw [e1, e2]
  have w1 : IntKind.i64.wrap ((a : Int) + 1) = ((a + 1 : Nat) : Int) := IntWalk.i64_in _ (by omega)
  have w2 : IntKind.i64.wrap ((b : Int) + 1) = ((b + 1 : Nat) : Int) := IntWalk.i64_in _ (by omega)
  have c1 : 0 ≤ (a : Int) + 1 ∧ (a : Int) + 1 ≤ 26 := by omega
  have c2 : (a : Int) ≤ (a : Int) + 1 := by omega
  have c3 : 0 ≤ (b : Int) + 1 ∧ (b : Int) + 1 ≤ 26 := by omega
  have c4 : (b : Int) ≤ (b : Int) + 1 := by omega
  obtain ⟨sa, x1⟩ : ∃ sa, (⟨#[97, 98, 99, 100, 101, 102, 103, 104, 105, 106, 107, 108, 109, 110, 111, 112, 113, 114, 115, 116, 117, 118, 119, 120, 121, 122]⟩ : ByteArray).extract a (a + 1) = sa := ⟨_, rfl⟩
  obtain ⟨sb, x2⟩ : ∃ sb, (⟨#[97, 98, 99, 100, 101, 102, 103, 104, 105, 106, 107, 108, 109, 110, 111, 112, 113, 114, 115, 116, 117, 118, 119, 120, 121, 122]⟩ : ByteArray).extract b (b + 1) = sb := ⟨_, rfl⟩
  have x3 : sa ++ sb = tx := by rw [HT.out, ← x1, ← x2, abc_at a ha, abc_at b hb]; rfl
  have z1 : sa.size = 1 := by rw [← x1, abc_at a ha]; rfl
  have z2 : sb.size = 1 := by rw [← x2, abc_at b hb]; rfl
  have hh := alloc_heap_new w (.cells #[.int .i64 0, .string ⟨#[]⟩, .string ⟨#[]⟩] 28)
  have hx := (Ext.refl w).alloc (.cells #[.int .i64 0, .string ⟨#[]⟩, .string ⟨#[]⟩] 28)
  generalize hwb : World.alloc w _ = wb at hh hx ⊢
  clear hwb
  refine wp_region_class (Below w.heap.size w) [0, 1, 2, 3, 4, 5, 6, 7, 8, 9] [10] (by kernel_rfl) (by kernel_rfl) (fun _ _ h k => h.trans (Below.mono k h.size)) (hx) ?_
  simp only [List.filterMap_cons, List.filterMap_nil, List.getElem?_cons_succ, List.getElem?_cons_zero]
  repeat (first | ((with_reducible refine wpFr_yes ?hw ?_); (case hw => rfl); intro K hK; go_simp; (first | (refine hK _ ?_; clear hK K) | (apply Exists.intro; refine ⟨fun x => ?_, hK _ ?_⟩; (fail); clear hK K))) | ((with_reducible refine wpFr_not ?hw ?_); (case hw => rfl); intro K hK; go_simp; (refine hK _ ?_; clear hK K)))
  refine wpFr_nil ?_
  refine wpTl_step fun W K hW hK => ?_
  have hb0 := heap_ext hW hh
  have q0 : W.cell? ⟨w.heap.size, 0, none⟩ = some (.int .i64 0) := cells_at hb0 0
  have q1 : W.cell? ⟨w.heap.size, 1, none⟩ = some (.string ⟨#[]⟩) := cells_at hb0 1
  have q2 : W.cell? ⟨w.heap.size, 2, none⟩ = some (.string ⟨#[]⟩) := cells_at hb0 2
  have fz : ∀ i, W.frozen? ⟨w.heap.size, i, none⟩ = false := fun i => by simp [World.frozen?, hb0]
  go_simp
  have hBW : Below w.heap.size w W := Ext.trans hx hW
  refine ⟨Below.setCell (Below.setCell (Below.setCell hBW (Nat.le_refl _) _) (Nat.le_refl _) _) (Nat.le_refl _) _, hK _ _ ?_⟩
  have hE : ∀ W3, W3 = ((W.setCell ⟨w.heap.size, 0, none⟩ (.int .i64 3)).setCell ⟨w.heap.size, 1, none⟩ (.string tx)).setCell ⟨w.heap.size, 2, none⟩ (.string ⟨#[]⟩) →
      W3.cell? ⟨w.heap.size, 0, none⟩ = some (.int .i64 3) ∧ W3.cell? ⟨w.heap.size, 1, none⟩ = some (.string tx) ∧ W3.cell? ⟨w.heap.size, 2, none⟩ = some (.string ⟨#[]⟩) ∧ Below w.heap.size w W3 := by
    rintro W3 rfl
    refine ⟨?_, ?_, ?_, Below.setCell (Below.setCell (Below.setCell hBW (Nat.le_refl _) _) (Nat.le_refl _) _) (Nat.le_refl _) _⟩
    · rw [World.cell?_setCell_other _ _ _ _ (by simp), World.cell?_setCell_other _ _ _ _ (by simp), World.cell?_setCell_same _ _ _ q0]
    · rw [World.cell?_setCell_other _ _ _ _ (by simp), World.cell?_setCell_same _ _ _ (u := .string ⟨#[]⟩)]
      rw [World.cell?_setCell_other _ _ _ _ (by simp), q1]
    · rw [World.cell?_setCell_same _ _ _ (u := .string ⟨#[]⟩)]
      rw [World.cell?_setCell_other _ _ _ _ (by simp), World.cell?_setCell_other _ _ _ _ (by simp), q2]
  generalize ((W.setCell ⟨w.heap.size, 0, none⟩ (.int .i64 3)).setCell ⟨w.heap.size, 1, none⟩ (.string tx)).setCell ⟨w.heap.size, 2, none⟩ (.string ⟨#[]⟩) = W3 at hE ⊢
  obtain ⟨r0, r1, r2, hB3⟩ := hE _ rfl
  clear hK K hE
  refine wpTl_nil fun x hxx => ?_
  have s0 := hxx.cell r0
  have s1 := hxx.cell r1
  have s2 := hxx.cell r2
  have hBx : Below w.heap.size w x := Ext.trans hB3 hxx
  clear r0 r1 r2 hB3 hxx q0 q1 q2 fz hb0 hW hBW hh hx x1 x2 x3 c1 c2 c3 c4 w1 w2 z1 z2
  go_wp2
  (try simp only [Exit.inBlock, Exit.then])
  refine bodyPost_ret (v := vTm ⟨3, tx, noText⟩) (results_cell rfl rfl ?_) rfl ?_
  · go_simp
  · exact ⟨rfl, hBx⟩
end Go.Proofs.Ytmobdmljbbckiaa
