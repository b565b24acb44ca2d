/- store.Put. -/
import Derived.Test.YtommohepbpdmdaaDoorStoreWalks
namespace Go.Proofs.YtommohepbpdmdaaDoor
open Go.RowKit Go.Maps Go.WideMaps Go.ChangeShapes Go.WideShapes
set_option maxHeartbeats 1600000
set_option maxRecDepth 100000

theorem put_known {w : World} {sb b1 b2 last bytes : Nat} {ids all : List (Value × Value)} (h : StoreAt w sb b1 b2 last bytes ids all) (s : ByteArray) (hs : s.size ≤ 100000) (n : Nat) (hn : 0 < n) (hin : (Value.string s, Value.int .i64 (n : Nat)) ∈ ids) :
    Calls Tryd.prog 10 #[.pointer (some ⟨sb, 0, none⟩), .string s] w fun e w' => e = .returned (.tuple #[.int .i64 (n : Nat), .nilIface]) ∧ w' = w := by
  have hkey := keyOf_string_mk (P := Tryd.prog) Tryd.underlying9 (s := s) (by unfold maxLen; omega)
  have hlk := fun c => h.ids.look_hit (t := 63) Tryd.underlying63 keysS hkey hin c
  have A := cells_at h.cells
  clear h
  go_enter Tryd.func10, Tryd.ntmps10
  go_wp2
  go_ret2
  exact ⟨rfl, rfl⟩

theorem put_full {w : World} {sb b1 b2 last bytes : Nat} {ids all : List (Value × Value)} (h : StoreAt w sb b1 b2 last bytes ids all) (s : ByteArray) (hs : s.size ≤ 100000) (hby : bytes ≤ 1000000) (hal : all.length ≤ 1000000) (hout : ∀ x ∈ ids, x.1 ≠ .string s)
    (hfull : ¬ (all.length + 1 ≤ 300 ∧ bytes + s.size ≤ 60000)) :
    Calls Tryd.prog 10 #[.pointer (some ⟨sb, 0, none⟩), .string s] w fun e w' => e = .returned (.tuple #[.int .i64 0, eV 4]) ∧ Ext w w' := by
  have hkey := keyOf_string_mk (P := Tryd.prog) Tryd.underlying9 (s := s) (by unfold maxLen; omega)
  have hlk := fun c => h.ids.look_miss (t := 63) Tryd.underlying63 keysS hkey hout (zeroI _) c
  have A := cells_at h.cells
  have hx1 := (Ext.refl w).alloc (.cells #[.string s] 9)
  have hv : Reads encS (w.alloc (.cells #[.string s] 9)) (.slice (some ⟨w.heap.size, 0, none⟩) 1 1) [s] := by
    refine ⟨_, 1, rfl, Nat.le_refl _, by decide, fun _ => ⟨_, 0, rfl, fun i u hi => ?_⟩⟩
    have := cells_new w #[.string s] 9 w.heap.size rfl i u (by simpa [encS] using hi)
    rw [add_plain] at this
    exact this
  have hroom := room_fresh (h.ext hx1) s hs hby hal hout _ hv
  have e1 : (decide (all.length + 1 ≤ 300) && decide (bytes + s.size ≤ 60000)) = false := by
    cases hd : (decide (all.length + 1 ≤ 300) && decide (bytes + s.size ≤ 60000)) with
    | false => rfl
    | true => simp only [Bool.and_eq_true, decide_eq_true_eq] at hd; exact absurd hd hfull
  rw [e1] at hroom
  have HR := Lib.hid hroom
  clear h hroom e1 hv hfull
  go_enter Tryd.func10, Tryd.ntmps10
  go_wp2_with (go_at_call 29; refine HR.out.mono ?_; rintro e w2 ⟨rfl, hx2⟩)
  go_ret2
  exact ⟨rfl, hx1.trans hx2⟩
end Go.Proofs.YtommohepbpdmdaaDoor
