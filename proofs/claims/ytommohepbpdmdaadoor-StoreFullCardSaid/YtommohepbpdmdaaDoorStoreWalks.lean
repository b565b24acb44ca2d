/- The store: what its functions do to the world. (Under way.) -/
import Derived.Test.YtommohepbpdmdaaDoorMapLaws
import Derived.Test.YtommohepbpdmdaaDoorErrs
import Derived.Test.YtommohepbpdmdaaDoorRegion
namespace Go.Proofs.YtommohepbpdmdaaDoor
open Go.RowKit Go.Maps Go.WideMaps Go.ChangeShapes Go.WideShapes
set_option maxHeartbeats 1600000
set_option maxRecDepth 100000

theorem keysS : Keyed Tryd.prog 9 := string_keyed Tryd.underlying9
theorem keysI : Keyed Tryd.prog 3 := int_keyed Tryd.underlying3

/-- a store at sb: the last number, how many bytes; the two maps -/
structure StoreAt (w : World) (sb b1 b2 : Nat) (last bytes : Nat) (ids all : List (Value × Value)) : Prop where
  cells : w.heap[sb]? = some (.cells #[.int .i64 last, .int .i64 bytes, .map (some b1), .map (some b2)] 66)
  ids : MapAt Tryd.prog 9 w b1 ids
  all : MapAt Tryd.prog 3 w b2 all
  ne : b1 ≠ b2 ∧ sb ≠ b1 ∧ sb ≠ b2

theorem storeNew_any (w : World) : Calls Tryd.prog 8 #[] w fun e w' => ∃ sb b1 b2, e = .returned (.pointer (some ⟨sb, 0, none⟩)) ∧ StoreAt w' sb b1 b2 0 0 [] [] ∧ w.heap.size ≤ sb ∧ w.heap.size ≤ b1 ∧ w.heap.size ≤ b2 ∧ Ext w w' := by
  have hmm := @run_makeMap Tryd.prog
  go_enter Tryd.func8, Tryd.ntmps8
  go_wp2
  go_ret
  refine ⟨w.heap.size + 1 + 1, w.heap.size, w.heap.size + 1, ?_, ⟨?_, ?_, ?_, ?_⟩, ?_, ?_, ?_, ?_⟩
  · rfl
  · have := alloc_heap_new ((w.alloc (.map #[] 0)).alloc (.map #[] 0)) (.cells #[.int .i64 0, .int .i64 0, .map (some w.heap.size), .map (some (w.heap.size + 1))] 66)
    simpa using this
  · exact (MapAt.made _ _ w).ext (((Ext.refl _).alloc _).alloc _)
  · have := (MapAt.made Tryd.prog 3 (w.alloc (.map #[] 0))).ext ((Ext.refl _).alloc (.cells #[.int .i64 0, .int .i64 0, .map (some w.heap.size), .map (some (w.heap.size + 1))] 66))
    simpa using this
  · omega
  · omega
  · omega
  · omega
  · exact (((Ext.refl _).alloc _).alloc _).alloc _

theorem StoreAt.ext {w w' : World} {sb b1 b2 last bytes : Nat} {ids all : List (Value × Value)} (h : StoreAt w sb b1 b2 last bytes ids all) (hx : Ext w w') : StoreAt w' sb b1 b2 last bytes ids all :=
  ⟨heap_ext hx h.cells, h.ids.ext hx, h.all.ext hx, h.ne⟩

theorem storeLen_any {w : World} {sb b1 b2 last bytes : Nat} {ids all : List (Value × Value)} (h : StoreAt w sb b1 b2 last bytes ids all) :
    Calls Tryd.prog 12 #[.pointer (some ⟨sb, 0, none⟩)] w fun e w' => e = .returned (.int .i64 (all.length : Nat)) ∧ w' = w := by
  have A := cells_at h.cells
  have hl := fun ty => h.all.len (t := 64) Tryd.underlying64 ty
  have HS := Lib.hid h
  clear h
  go_enter Tryd.func12, Tryd.ntmps12
  go_wp2
  go_ret
  exact ⟨rfl, rfl⟩

theorem zeroI (w : World) : (zeroValue 3).run Tryd.prog w = .ok (.int .i64 0) w := by kernel_rfl
theorem zeroB (w : World) : (zeroValue 4).run Tryd.prog w = .ok (.bool false) w := by kernel_rfl
theorem zeroS (w : World) : (zeroValue 9).run Tryd.prog w = .ok (.string ⟨#[]⟩) w := by kernel_rfl

theorem TurnedAt.below {b B : Nat} {w w' : World} (h : TurnedAt b w w') (hb : B ≤ b) {w0 : World} (h0 : Below B w0 w) : Below B w0 w' :=
  ⟨h.os.trans h0.os, h.tape.trans h0.tape, h.output.trans h0.output, by rw [h.size]; exact h0.size, fun k hk => (h.other k (by omega)).trans (h0.block k hk)⟩

/-- Room for one that is not there -/
theorem room_fresh {w : World} {sb b1 b2 last bytes : Nat} {ids all : List (Value × Value)} (h : StoreAt w sb b1 b2 last bytes ids all) (s : ByteArray) (hs : s.size ≤ 100000) (hby : bytes ≤ 1000000) (hal : all.length ≤ 1000000) (hout : ∀ x ∈ ids, x.1 ≠ .string s) (v : Value) (hv : Reads encS w v [s]) :
    Calls Tryd.prog 29 #[.pointer (some ⟨sb, 0, none⟩), v] w fun e w' => e = .returned (.bool (decide (all.length + 1 ≤ 300) && decide (bytes + s.size ≤ 60000))) ∧ Ext w w' := by
  obtain ⟨a, cap, rfl, hcap, hmax, hcells⟩ := hv
  obtain ⟨b, off, rfl, hc⟩ := hcells (by simp)
  have hc0 : w.cell? ⟨b, off, none⟩ = some (.string s) := by simpa using hc 0 (.string s) rfl
  have hmm := @run_makeMap Tryd.prog
  have hkey := keyOf_string_mk (P := Tryd.prog) Tryd.underlying9 (s := s) (by unfold maxLen; omega)
  have hl := fun W (hW : Ext w W) ty => (h.ext hW).all.len (t := 64) Tryd.underlying64 ty
  have hlook := fun W (hW : Ext w W) c => (h.ext hW).ids.look_miss (t := 63) Tryd.underlying63 keysS hkey hout (zeroI _) c
  have A := Later.cells h.cells
  have HL := Lib.hid (And.intro hl (And.intro hlook h))
  clear hl hlook hcells hc hcap hmax
  go_enter Tryd.func29, Tryd.ntmps29
  go_upto_region 1 with fail
  have hl1 := fun (x : Later w) ty => HL.out.1 x.wd x.ext ty
  refine wp_region_ext [0, 1, 2, 3, 4, 5, 6, 7, 8, 9, 10] [] (by kernel_rfl) (by kernel_rfl) ?_
  simp only [List.filterMap_cons, List.filterMap_nil, List.getElem?_cons_succ, List.getElem?_cons_zero]
  repeat (first | ((with_reducible refine wpFr_yes ?hw ?_); (case hw => rfl); intro K hK; go_simp; (first | (refine hK _ ?_; clear hK K) | (apply Exists.intro; refine ⟨fun x => ?_, hK _ ?_⟩; (fail); clear hK K))) | ((with_reducible refine wpFr_not ?hw ?_); (case hw => rfl); intro K hK; go_simp; (refine hK _ ?_; clear hK K)))
  refine wpFr_nil ?_
  refine wpTl_nil fun x hxx => ?_
  have hmk := MapAt.made Tryd.prog 9 x
  have hx1 := hxx.alloc (.map #[] 0)
  have hlk := fun c => hmk.look_miss (t := 97) Tryd.underlying97 keysS hkey (by simp) (zeroB _) c
  have hlk2 := fun c => HL.out.2.1 _ hx1 c
  obtain ⟨w2, hput, _, hturn⟩ := hmk.put_miss (t := 97) Tryd.underlying97 keysS hkey (by simp) (value := .bool true)
  have hc1 := hx1.cell hc0
  have A1 := cells_at (heap_ext hx1 h.cells)
  have hxe : Ext w w2 := hturn.below hxx.size hx1
  have hc2 := hxe.cell hc0
  have hw1 : IntKind.i64.wrap ((all.length : Int) + 1) = (all.length : Int) + 1 := IntWalk.i64_in _ (by omega)
  have hw2 : IntKind.i64.wrap ((bytes : Int) + s.size) = (bytes : Int) + s.size := IntWalk.i64_in _ (by omega)
  clear hl1 hmk hturn hc0 A h
  go_wp2
  refine wp_loop_rounds 2 ?_
  rw [rounds_succ]
  go_wp2
  rw [rounds_succ]
  by_cases g1 : all.length + 1 ≤ 300
  · by_cases g2 : bytes + s.size ≤ 60000
    · go_wp2
      go_ret
      exact ⟨by simp [g1, g2] <;> omega, hxe⟩
    · go_wp2
      go_ret
      exact ⟨by simp [g1, g2] <;> omega, hxe⟩
  · go_wp2
    go_ret
    exact ⟨by simp [g1] <;> omega, hxe⟩
end Go.Proofs.YtommohepbpdmdaaDoor
