/- errors.As on an Errno: what plain.Told, stratasame.Error do. (Door seats: after the guide's worked example Toyas.) -/
import Derived.Test.YtommohepbpdmdaaDoorToldFacts
namespace Go.Proofs.YtommohepbpdmdaaDoor
open Go.RowKit Go.Extern.Stop Go.Stop Go.Extern
set_option maxHeartbeats 4000000
set_option maxRecDepth 100000

/-- errors.errorType's cell -/
def HandleAt (w : World) : Prop := w.cell? ⟨0, 0, none⟩ = some (.iface 140 (.agg #[.pointer (some ⟨2, 28, none⟩)]))
theorem HandleAt.ext {w w' : World} (h : HandleAt w) (e : Ext w w') : HandleAt w' := e.cell h
theorem HandleAt.pos {w : World} (h : HandleAt w) : 0 < w.heap.size := World.block_lt_of_cell? w ⟨0, 0, none⟩ h

theorem told_nil (w : World) : Calls Tryd.prog 30 #[.nilIface] w fun e w' => e = .returned (.int .i64 0) ∧ w' = w := by
  go_enter Tryd.func30, Tryd.ntmps30
  go_wp2
  go_ret
  exact ⟨rfl, rfl⟩

/-- where errors.As leaves the world -/
def asWorld (n : Int) (t : Addr) (w : World) : World := ((((w.alloc (.cells #[.pointer (some t)] 99)).alloc (.cells #[.pointer (some ⟨2, 99, none⟩), .pointer (some ⟨w.heap.size, 0, none⟩), .int .u64 150] 119)).alloc (.cells #[.pointer (some ⟨2, 99, none⟩), .pointer (some ⟨w.heap.size, 0, none⟩), .int .u64 150] 119)).alloc (.cells #[.int .i64 n] 68)).setCell t (.int .i64 n)

theorem as_hit (n : Int) (t : Addr) (old : Value) (w : World) (hg : HandleAt w) (ht0 : w.cell? t = some old) (hf0 : w.frozen? t = false) :
    Calls Tryd.prog 49 #[.iface 68 (.int .i64 n), .iface 99 (.pointer (some t))] w fun e w' => e = .returned (.bool true) ∧ w' = asWorld n t w := by
  have h1 := @run_callFunc_extern Tryd.prog 70 _ (fun args => ReflectliteValue.unpack (args.getD 0 (.tuple #[]))) Tryd.func70 (by kernel_rfl) (by kernel_rfl) (by kernel_rfl) (by kernel_rfl)
  have h2 := @run_callFunc_extern Tryd.prog 71 _ (ReflectliteValue.methodAny (ReflectliteValue.valueError "reflectlite.Value.Type" 0) (fun t _ _ _ => ReflectliteType.toType t)) Tryd.func71 (by kernel_rfl) (by kernel_rfl) (by kernel_rfl) (by kernel_rfl)
  have h3 := @run_callFunc_extern Tryd.prog 72 _ (ReflectliteValue.method (ReflectliteValue.valueError "reflectlite.Value.IsNil" 0) ReflectliteValue.isNil) Tryd.func72 (by kernel_rfl) (by kernel_rfl) (by kernel_rfl) (by kernel_rfl)
  have h4 := @run_callFunc_extern Tryd.prog 133 _ (ReflectliteType.abiMethod fun t => do pure (.int .u8 (← Rtype.kind t))) Tryd.func133 (by kernel_rfl) (by kernel_rfl) (by kernel_rfl) (by kernel_rfl)
  have h5 := @run_callFunc_extern Tryd.prog 143 _ (ReflectliteType.method ReflectliteType.elem) Tryd.func143 (by kernel_rfl) (by kernel_rfl) (by kernel_rfl) (by kernel_rfl)
  have h6 := @run_callFunc_extern Tryd.prog 144 _ (ReflectliteType.relation "Implements" ReflectliteType.implements_) Tryd.func144 (by kernel_rfl) (by kernel_rfl) (by kernel_rfl) (by kernel_rfl)
  have h7 := @run_callFunc_extern Tryd.prog 85 _ ReflectliteType.typeOf Tryd.func85 (by kernel_rfl) (by kernel_rfl) (by kernel_rfl) (by kernel_rfl)
  have h8 := @run_callFunc_extern Tryd.prog 141 _ (ReflectliteType.relation "AssignableTo" ReflectliteType.assignableTo) Tryd.func141 (by kernel_rfl) (by kernel_rfl) (by kernel_rfl) (by kernel_rfl)
  have h9 := @run_callFunc_extern Tryd.prog 86 _ (ReflectliteValue.method (ReflectliteValue.valueError "reflectlite.Value.Elem" 0) ReflectliteValue.elem) Tryd.func86 (by kernel_rfl) (by kernel_rfl) (by kernel_rfl) (by kernel_rfl)
  have h10 := @run_callFunc_extern Tryd.prog 87 _ ReflectliteValue.set Tryd.func87 (by kernel_rfl) (by kernel_rfl) (by kernel_rfl) (by kernel_rfl)
  have f1 := as_valueOfP
  have f2 := as_typeP
  have f3 := as_kindP
  have f4 := as_kindE
  have f5 := as_elemP
  have f6 := as_implE
  have f7 := as_typeOfE
  have f8 := as_assignE
  have f9 := as_valueOfE
  have m1 := as_mKind
  have m2 := as_mElem
  have m3 := as_mImpl
  have m4 := as_mAssign
  have hlt := hg.pos
  unfold HandleAt at hg
  have htl : t.block < w.heap.size := World.block_lt_of_cell? w t ht0
  have n8 := as_isNilP ⟨w.heap.size, 0, none⟩ t ((w.alloc (.cells #[.pointer (some t)] 99)).alloc (.cells #[.pointer (some ⟨2, 99, none⟩), .pointer (some ⟨w.heap.size, 0, none⟩), .int .u64 150] 119)) (by simp)
  have hg2 : ((w.alloc (.cells #[.pointer (some t)] 99)).alloc (.cells #[.pointer (some ⟨2, 99, none⟩), .pointer (some ⟨w.heap.size, 0, none⟩), .int .u64 150] 119)).cell? ⟨0, 0, none⟩ = some (.iface 140 (.agg #[.pointer (some ⟨2, 28, none⟩)])) := by
    rw [World.cell?_alloc_lt _ _ ⟨0, 0, none⟩ (by simp), World.cell?_alloc_lt _ _ ⟨0, 0, none⟩ hlt]; exact hg
  have el := as_elemVP ⟨w.heap.size, 0, none⟩ t (((w.alloc (.cells #[.pointer (some t)] 99)).alloc (.cells #[.pointer (some ⟨2, 99, none⟩), .pointer (some ⟨w.heap.size, 0, none⟩), .int .u64 150] 119)).alloc (.cells #[.pointer (some ⟨2, 99, none⟩), .pointer (some ⟨w.heap.size, 0, none⟩), .int .u64 150] 119)) (by rw [World.cell?_alloc_lt _ _ ⟨w.heap.size, 0, none⟩ (by simp; omega)]; simp)
  have st := as_setE t ⟨w.heap.size + 1 + 1 + 1, 0, none⟩ n old ((((w.alloc (.cells #[.pointer (some t)] 99)).alloc (.cells #[.pointer (some ⟨2, 99, none⟩), .pointer (some ⟨w.heap.size, 0, none⟩), .int .u64 150] 119)).alloc (.cells #[.pointer (some ⟨2, 99, none⟩), .pointer (some ⟨w.heap.size, 0, none⟩), .int .u64 150] 119)).alloc (.cells #[.int .i64 n] 68))
    (by rw [World.cell?_alloc_at _ _ _ _ (by simp)]; rfl)
    (by rw [World.cell?_alloc_lt _ _ t (by simp; omega), World.cell?_alloc_lt _ _ t (by simp; omega), World.cell?_alloc_lt _ _ t (by simp; omega), World.cell?_alloc_lt _ _ t htl]; exact ht0)
    (by rw [World.frozen?_alloc_old _ _ t (by simp; omega), World.frozen?_alloc_old _ _ t (by simp; omega), World.frozen?_alloc_old _ _ t (by simp; omega), World.frozen?_alloc_old _ _ t (Nat.ne_of_lt htl)]; exact hf0)
  unfold asWorld
  go_enter Tryd.func49, Tryd.ntmps49
  go_wp2
  refine wp_loop_rounds 1 ?_
  rw [rounds_succ]
  go_wp2
  go_ret
  exact ⟨rfl, rfl⟩

theorem told_some (n : Int) (w : World) (hg : HandleAt w) : Calls Tryd.prog 30 #[eV n] w fun e w' => e = .returned (.int .i64 n) ∧ Ext w w' := by
  have hx0 := (Ext.refl w).alloc (.cells #[.int .i64 0] 68)
  have hc : (w.alloc (.cells #[.int .i64 0] 68)).cell? ⟨w.heap.size, 0, none⟩ = some (.int .i64 0) := by simp
  have hf : (w.alloc (.cells #[.int .i64 0] 68)).frozen? ⟨w.heap.size, 0, none⟩ = false := by simp
  have hA := as_hit n ⟨w.heap.size, 0, none⟩ (.int .i64 0) _ (hg.ext hx0) hc hf
  have hs := World.size_alloc w (.cells #[.int .i64 0] 68)
  have hend : ∀ W, W = asWorld n ⟨w.heap.size, 0, none⟩ (w.alloc (.cells #[.int .i64 0] 68)) → W.cell? ⟨w.heap.size, 0, none⟩ = some (.int .i64 n) ∧ Ext w W := by
    rintro W rfl
    unfold asWorld
    refine ⟨?_, ?_⟩
    · refine World.cell?_setCell_same _ _ _ (u := .int .i64 0) ?_
      exact Ext.cell (((((Ext.refl _).alloc _).alloc _).alloc _).alloc _) hc
    · exact Below.setCell (((((hx0.alloc _).alloc _).alloc _).alloc _)) (Nat.le_refl _) _
  have HA := Lib.hid (And.intro hA hend)
  clear hA hend hc hf hs
  go_enter Tryd.func30, Tryd.ntmps30
  go_wp2_with (go_at_call 49; refine HA.out.1.mono ?_; rintro e w2 ⟨rfl, hw2⟩; obtain ⟨hc2, hx2⟩ := HA.out.2 _ hw2; clear hw2)
  go_ret
  exact ⟨rfl, hx2⟩

theorem same_nil (k : Int) (w : World) : Calls Tryd.prog 11 #[.nilIface, .int .i64 k] w fun e w' => e = .returned (.bool (decide (0 = k))) ∧ w' = w := by
  go_enter Tryd.func11, Tryd.ntmps11
  go_wp2_with (go_at_call 30; refine (told_nil _).mono ?_; rintro e w1 ⟨rfl, rfl⟩)
  go_ret
  exact ⟨by simp [BEq.beq], rfl⟩

theorem same_some (n k : Int) (w : World) (hg : HandleAt w) : Calls Tryd.prog 11 #[eV n, .int .i64 k] w fun e w' => e = .returned (.bool (decide (n = k))) ∧ Ext w w' := by
  have hT := told_some n w hg
  go_enter Tryd.func11, Tryd.ntmps11
  go_wp2_with (go_at_call 30; refine hT.mono ?_; rintro e w1 ⟨rfl, hx1⟩)
  go_ret
  exact ⟨by simp [BEq.beq], hx1⟩
end Go.Proofs.YtommohepbpdmdaaDoor
