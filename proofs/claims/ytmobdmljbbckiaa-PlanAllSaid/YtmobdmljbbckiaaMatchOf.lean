/- match.Of; match.Vars by what is wrong. -/
import Derived.Test.YtmobdmljbbckiaaMatchVars
import Derived.Test.YtmobdmljbbckiaaMatchFits
import Derived.Test.YtmobdmljbbckiaaDeleteTr
import Derived.Test.YtmobdmljbbckiaaSorted
namespace Go.Proofs.Ytmobdmljbbckiaa
open Go.RowKit
set_option maxHeartbeats 3200000
set_option maxRecDepth 100000

theorem of1_any (t : Tr) (p : Pat) (b : Nat) (W : World) (hb : W.heap[b]? = some (.cells #[.string p.s.var, .int .i64 p.s.term.kind, .string p.s.term.s, .string p.s.term.lang, .string p.p.var, .int .i64 p.p.term.kind, .string p.p.term.s, .string p.p.term.lang, .string p.o.var, .int .i64 p.o.term.kind, .string p.o.term.s, .string p.o.term.lang] 32)) :
    Calls Try.prog 67 #[vTr t, .pointer (some ⟨b, 0, none⟩)] W fun e w' => e = .returned (.bool (!fits t p)) ∧ Ext W w' := by
  have hf := fun W => fits_any t p W
  have A := cells_at (heap_ext ((Ext.refl W).alloc (.cells #[.int .i64 t.s.kind, .string t.s.s, .string t.s.lang, .int .i64 t.p.kind, .string t.p.s, .string t.p.lang, .int .i64 t.o.kind, .string t.o.s, .string t.o.lang] 82)) hb)
  have hlt : b < W.heap.size := (Array.getElem?_eq_some_iff.1 hb).1
  have HF := Lib.hid hf
  clear hf hb
  go_enter Try.func67, Try.ntmps67
  go_wp2_with (go_at_call 68; refine (HF.out _).mono ?_; rintro e w1 ⟨rfl, hx1⟩)
  go_ret
  exact ⟨rfl, ((Ext.refl W).alloc _).trans hx1⟩

theorem of_any (v : Value) (l : List Tr) (p : Pat) (w : World) (hl : Reads encTr w v l) (hn : l.length ≤ 100000) :
    Calls Try.prog 29 #[v, vPat p] w fun e w' => ∃ v', e = .returned v' ∧ w'.ownsRow w.heap.size 82 9 v' (l.filter fun t => fits t p).length ((l.filter fun t => fits t p).flatMap encTr) ∧ Ext w w' := by
  go_enter Try.func29, Try.ntmps29
  go_upto_region 1 with fail
  have hb := alloc_heap_new w (.cells #[.string p.s.var, .int .i64 p.s.term.kind, .string p.s.term.s, .string p.s.term.lang, .string p.p.var, .int .i64 p.p.term.kind, .string p.p.term.s, .string p.p.term.lang, .string p.o.var, .int .i64 p.o.term.kind, .string p.o.term.s, .string p.o.term.lang] 32)
  have hx := (Ext.refl w).alloc (.cells #[.string p.s.var, .int .i64 p.s.term.kind, .string p.s.term.s, .string p.s.term.lang, .string p.p.var, .int .i64 p.p.term.kind, .string p.p.term.s, .string p.p.term.lang, .string p.o.var, .int .i64 p.o.term.kind, .string p.o.term.s, .string p.o.term.lang] 32)
  generalize hwb : World.alloc w _ = wb at hb hx ⊢
  clear hwb
  have hlt : w.heap.size < wb.heap.size := (Array.getElem?_eq_some_iff.1 hb).1
  have hcl := clone_tr v l wb (hl.ext hx) hn
  have hdel : ∀ v1 w1, w1.ownsRow wb.heap.size 82 9 v1 l.length (l.flatMap encTr) → Ext wb w1 → Calls Try.prog 65 #[v1, .func (.func 67) #[] #[.pointer (some ⟨w.heap.size, 0, none⟩)]] w1 fun e w' => ∃ v', e = .returned v' ∧
      w'.ownsRow w.heap.size 82 9 v' (l.filter fun t => fits t p).length ((l.filter fun t => fits t p).flatMap encTr) ∧ Ext w w' := fun v1 w1 ho hx1 => by
    have := deleteFunc_tr v1 l w1 wb.heap.size 67 #[.pointer (some ⟨w.heap.size, 0, none⟩)] (fun t => !fits t p) ho hx1.size
      ⟨Go.Proofs.enters_of Try.func67 (by kernel_rfl) rfl, fun W x _ hW => of1_any x p w.heap.size W (by rw [hW.block _ hlt, hx1.block _ hlt]; exact hb)⟩
    refine this.mono fun e w' ⟨v', h1, h2, h3⟩ => ⟨v', h1, ?_, ?_⟩
    · simp only [Bool.not_not] at h2; exact own_mono h2 hx.size
    · exact Ext.trans hx (Below.trans hx1 h3)
  have HD := Lib.hid (And.intro hcl hdel)
  clear hcl hdel hb hx hlt hl
  go_wp2_with (first | (go_at_call 66; refine HD.out.1.mono ?_; rintro e w1 ⟨v1, rfl, ho1, hx1⟩) | (go_at_call 65; refine (HD.out.2 _ _ ho1 hx1).mono ?_; rintro e w2 ⟨v2, rfl, ho2, hx2⟩))
  go_ret
  exact ⟨_, rfl, ho2, hx2⟩

theorem vars_bad {p : Pat} {n : Int} (h : patErr p = some n) (w : World) : Calls Try.prog 22 #[vPat p] w fun e w' => e = .returned (.tuple #[.slice none 0 0, eV n]) ∧ Ext w w' :=
  (vars_any p w).mono fun e w' hh => by
    rcases hh with ⟨m, h1, h2, h3⟩ | ⟨h1, _⟩
    · rw [h] at h1; cases h1; exact ⟨h2, h3⟩
    · rw [h] at h1; cases h1
theorem vars_ok {p : Pat} (h : patErr p = none) (w : World) : Calls Try.prog 22 #[vPat p] w fun e w' => ∃ v, e = .returned (.tuple #[v, .nilIface]) ∧ w'.ownsRow w.heap.size 9 1 v (patVars p).length ((patVars p).map Value.string) ∧ Ext w w' :=
  (vars_any p w).mono fun e w' hh => by
    rcases hh with ⟨m, h1, _⟩ | ⟨_, h2⟩
    · rw [h] at h1; cases h1
    · exact h2

end Go.Proofs.Ytmobdmljbbckiaa
