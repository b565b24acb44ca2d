/- errors.As on an Errno: what plain.Told, stratasame.Error do. (Door seats: after the guide's worked example Toyas.) -/
import Derived.Test.YtmobdmljbbckiaaDoorToldFacts
namespace Go.Proofs.YtmobdmljbbckiaaDoor
open Go.RowKit Go.Extern.Stop Go.Stop Go.Extern
set_option maxHeartbeats 4000000
set_option maxRecDepth 100000

/-- errors.errorType's cell -/
def HandleAt (w : World) : Prop := w.cell? ⟨0, 0, none⟩ = some (.iface 129 (.agg #[.pointer (some ⟨2, 30, none⟩)]))
theorem HandleAt.ext {w w' : World} (h : HandleAt w) (e : Ext w w') : HandleAt w' := e.cell h
theorem HandleAt.pos {w : World} (h : HandleAt w) : 0 < w.heap.size := World.block_lt_of_cell? w ⟨0, 0, none⟩ h

theorem told_nil (w : World) : Calls Tryd.prog 22 #[.nilIface] w fun e w' => e = .returned (.int .i64 0) ∧ w' = w := by
  go_enter Tryd.func22, Tryd.ntmps22
  go_wp2
  go_ret
  exact ⟨rfl, rfl⟩

/-- where errors.As leaves the world -/
def asWorld (n : Int) (t : Addr) (w : World) : World := ((((w.alloc (.cells #[.pointer (some t)] 81)).alloc (.cells #[.pointer (some ⟨2, 81, none⟩), .pointer (some ⟨w.heap.size, 0, none⟩), .int .u64 150] 97)).alloc (.cells #[.pointer (some ⟨2, 81, none⟩), .pointer (some ⟨w.heap.size, 0, none⟩), .int .u64 150] 97)).alloc (.cells #[.int .i64 n] 53)).setCell t (.int .i64 n)

theorem as_hit (n : Int) (t : Addr) (old : Value) (w : World) (hg : HandleAt w) (ht0 : w.cell? t = some old) (hf0 : w.frozen? t = false) :
    Calls Tryd.prog 40 #[.iface 53 (.int .i64 n), .iface 81 (.pointer (some t))] w fun e w' => e = .returned (.bool true) ∧ w' = asWorld n t w := by
  have h1 := @run_callFunc_extern Tryd.prog 52 _ (fun args => ReflectliteValue.unpack (args.getD 0 (.tuple #[]))) Tryd.func52 (by kernel_rfl) (by kernel_rfl) (by kernel_rfl) (by kernel_rfl)
  have h2 := @run_callFunc_extern Tryd.prog 53 _ (ReflectliteValue.methodAny (ReflectliteValue.valueError "reflectlite.Value.Type" 0) (fun t _ _ _ => ReflectliteType.toType t)) Tryd.func53 (by kernel_rfl) (by kernel_rfl) (by kernel_rfl) (by kernel_rfl)
  have h3 := @run_callFunc_extern Tryd.prog 54 _ (ReflectliteValue.method (ReflectliteValue.valueError "reflectlite.Value.IsNil" 0) ReflectliteValue.isNil) Tryd.func54 (by kernel_rfl) (by kernel_rfl) (by kernel_rfl) (by kernel_rfl)
  have h4 := @run_callFunc_extern Tryd.prog 120 _ (ReflectliteType.abiMethod fun t => do pure (.int .u8 (← Rtype.kind t))) Tryd.func120 (by kernel_rfl) (by kernel_rfl) (by kernel_rfl) (by kernel_rfl)
  have h5 := @run_callFunc_extern Tryd.prog 130 _ (ReflectliteType.method ReflectliteType.elem) Tryd.func130 (by kernel_rfl) (by kernel_rfl) (by kernel_rfl) (by kernel_rfl)
  have h6 := @run_callFunc_extern Tryd.prog 131 _ (ReflectliteType.relation "Implements" ReflectliteType.implements_) Tryd.func131 (by kernel_rfl) (by kernel_rfl) (by kernel_rfl) (by kernel_rfl)
  have h7 := @run_callFunc_extern Tryd.prog 80 _ ReflectliteType.typeOf Tryd.func80 (by kernel_rfl) (by kernel_rfl) (by kernel_rfl) (by kernel_rfl)
  have h8 := @run_callFunc_extern Tryd.prog 128 _ (ReflectliteType.relation "AssignableTo" ReflectliteType.assignableTo) Tryd.func128 (by kernel_rfl) (by kernel_rfl) (by kernel_rfl) (by kernel_rfl)
  have h9 := @run_callFunc_extern Tryd.prog 81 _ (ReflectliteValue.method (ReflectliteValue.valueError "reflectlite.Value.Elem" 0) ReflectliteValue.elem) Tryd.func81 (by kernel_rfl) (by kernel_rfl) (by kernel_rfl) (by kernel_rfl)
  have h10 := @run_callFunc_extern Tryd.prog 82 _ ReflectliteValue.set Tryd.func82 (by kernel_rfl) (by kernel_rfl) (by kernel_rfl) (by kernel_rfl)
  have f1 := as_valueOfP
  have f2 := as_typeP
  have f3 := as_kindP
  have f4 := as_kindE
  have f5 := as_elemP
  have f6 := as_implE
  have f7 := as_typeOfE
  have f8 := as_assignE
  have f9 := as_valueOfE
  have m1 := as_mKind
  have m2 := as_mElem
  have m3 := as_mImpl
  have m4 := as_mAssign
  have hlt := hg.pos
  unfold HandleAt at hg
  have htl : t.block < w.heap.size := World.block_lt_of_cell? w t ht0
  have n8 := as_isNilP ⟨w.heap.size, 0, none⟩ t ((w.alloc (.cells #[.pointer (some t)] 81)).alloc (.cells #[.pointer (some ⟨2, 81, none⟩), .pointer (some ⟨w.heap.size, 0, none⟩), .int .u64 150] 97)) (by simp)
  have hg2 : ((w.alloc (.cells #[.pointer (some t)] 81)).alloc (.cells #[.pointer (some ⟨2, 81, none⟩), .pointer (some ⟨w.heap.size, 0, none⟩), .int .u64 150] 97)).cell? ⟨0, 0, none⟩ = some (.iface 129 (.agg #[.pointer (some ⟨2, 30, none⟩)])) := by
    rw [World.cell?_alloc_lt _ _ ⟨0, 0, none⟩ (by simp), World.cell?_alloc_lt _ _ ⟨0, 0, none⟩ hlt]; exact hg
  have el := as_elemVP ⟨w.heap.size, 0, none⟩ t (((w.alloc (.cells #[.pointer (some t)] 81)).alloc (.cells #[.pointer (some ⟨2, 81, none⟩), .pointer (some ⟨w.heap.size, 0, none⟩), .int .u64 150] 97)).alloc (.cells #[.pointer (some ⟨2, 81, none⟩), .pointer (some ⟨w.heap.size, 0, none⟩), .int .u64 150] 97)) (by rw [World.cell?_alloc_lt _ _ ⟨w.heap.size, 0, none⟩ (by simp; omega)]; simp)
  have st := as_setE t ⟨w.heap.size + 1 + 1 + 1, 0, none⟩ n old ((((w.alloc (.cells #[.pointer (some t)] 81)).alloc (.cells #[.pointer (some ⟨2, 81, none⟩), .pointer (some ⟨w.heap.size, 0, none⟩), .int .u64 150] 97)).alloc (.cells #[.pointer (some ⟨2, 81, none⟩), .pointer (some ⟨w.heap.size, 0, none⟩), .int .u64 150] 97)).alloc (.cells #[.int .i64 n] 53))
    (by rw [World.cell?_alloc_at _ _ _ _ (by simp)]; rfl)
    (by rw [World.cell?_alloc_lt _ _ t (by simp; omega), World.cell?_alloc_lt _ _ t (by simp; omega), World.cell?_alloc_lt _ _ t (by simp; omega), World.cell?_alloc_lt _ _ t htl]; exact ht0)
    (by rw [World.frozen?_alloc_old _ _ t (by simp; omega), World.frozen?_alloc_old _ _ t (by simp; omega), World.frozen?_alloc_old _ _ t (by simp; omega), World.frozen?_alloc_old _ _ t (Nat.ne_of_lt htl)]; exact hf0)
  unfold asWorld
  go_enter Tryd.func40, Tryd.ntmps40
  go_wp2
  refine wp_loop_rounds 1 ?_
  rw [rounds_succ]
  go_wp2
  go_ret
  exact ⟨rfl, rfl⟩

theorem told_some (n : Int) (w : World) (hg : HandleAt w) : Calls Tryd.prog 22 #[eV n] w fun e w' => e = .returned (.int .i64 n) ∧ Ext w w' := by
  have hx0 := (Ext.refl w).alloc (.cells #[.int .i64 0] 53)
  have hc : (w.alloc (.cells #[.int .i64 0] 53)).cell? ⟨w.heap.size, 0, none⟩ = some (.int .i64 0) := by simp
  have hf : (w.alloc (.cells #[.int .i64 0] 53)).frozen? ⟨w.heap.size, 0, none⟩ = false := by simp
  have hA := as_hit n ⟨w.heap.size, 0, none⟩ (.int .i64 0) _ (hg.ext hx0) hc hf
  have hs := World.size_alloc w (.cells #[.int .i64 0] 53)
  have hend : ∀ W, W = asWorld n ⟨w.heap.size, 0, none⟩ (w.alloc (.cells #[.int .i64 0] 53)) → W.cell? ⟨w.heap.size, 0, none⟩ = some (.int .i64 n) ∧ Ext w W := by
    rintro W rfl
    unfold asWorld
    refine ⟨?_, ?_⟩
    · refine World.cell?_setCell_same _ _ _ (u := .int .i64 0) ?_
      exact Ext.cell (((((Ext.refl _).alloc _).alloc _).alloc _).alloc _) hc
    · exact Below.setCell (((((hx0.alloc _).alloc _).alloc _).alloc _)) (Nat.le_refl _) _
  have HA := Lib.hid (And.intro hA hend)
  clear hA hend hc hf hs
  go_enter Tryd.func22, Tryd.ntmps22
  go_wp2_with (go_at_call 40; refine HA.out.1.mono ?_; rintro e w2 ⟨rfl, hw2⟩; obtain ⟨hc2, hx2⟩ := HA.out.2 _ hw2; clear hw2)
  go_ret
  exact ⟨rfl, hx2⟩

theorem same_nil (k : Int) (w : World) : Calls Tryd.prog 9 #[.nilIface, .int .i64 k] w fun e w' => e = .returned (.bool (decide (0 = k))) ∧ w' = w := by
  go_enter Tryd.func9, Tryd.ntmps9
  go_wp2_with (go_at_call 22; refine (told_nil _).mono ?_; rintro e w1 ⟨rfl, rfl⟩)
  go_ret
  exact ⟨by simp [BEq.beq], rfl⟩

theorem same_some (n k : Int) (w : World) (hg : HandleAt w) : Calls Tryd.prog 9 #[eV n, .int .i64 k] w fun e w' => e = .returned (.bool (decide (n = k))) ∧ Ext w w' := by
  have hT := told_some n w hg
  go_enter Tryd.func9, Tryd.ntmps9
  go_wp2_with (go_at_call 22; refine hT.mono ?_; rintro e w1 ⟨rfl, hx1⟩)
  go_ret
  exact ⟨by simp [BEq.beq], hx1⟩
end Go.Proofs.YtmobdmljbbckiaaDoor
