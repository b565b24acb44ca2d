/- What match.Of, Match, Count do to the world. -/
import Derived.Test.YtommohepbpdmdaaMatchVars
import Derived.Test.YtommohepbpdmdaaMatchFits
import Derived.Test.YtommohepbpdmdaaDeleteTr
import Derived.Test.YtommohepbpdmdaaSorted
namespace Go.Proofs.Ytommohepbpdmdaa
open Go.RowKit
set_option maxHeartbeats 3200000
set_option maxRecDepth 100000

theorem of1_any (t : Tr) (p : Pat) (b : Nat) (W : World) (hb : W.heap[b]? = some (.cells #[.string p.s.var, .int .i64 p.s.term.kind, .string p.s.term.s, .string p.s.term.lang, .string p.p.var, .int .i64 p.p.term.kind, .string p.p.term.s, .string p.p.term.lang, .string p.o.var, .int .i64 p.o.term.kind, .string p.o.term.s, .string p.o.term.lang] 44)) :
    Calls Try.prog 94 #[vTr t, .pointer (some ⟨b, 0, none⟩)] W fun e w' => e = .returned (.bool (!fits t p)) ∧ Ext W w' := by
  have hf := fun W => fits_any t p W
  have A := cells_at (heap_ext ((Ext.refl W).alloc (.cells #[.int .i64 t.s.kind, .string t.s.s, .string t.s.lang, .int .i64 t.p.kind, .string t.p.s, .string t.p.lang, .int .i64 t.o.kind, .string t.o.s, .string t.o.lang] 39)) hb)
  have hlt : b < W.heap.size := (Array.getElem?_eq_some_iff.1 hb).1
  have HF := Lib.hid hf
  clear hf hb
  go_enter Try.func94, Try.ntmps94
  go_wp2_with (go_at_call 95; refine (HF.out _).mono ?_; rintro e w1 ⟨rfl, hx1⟩)
  go_ret
  exact ⟨rfl, ((Ext.refl W).alloc _).trans hx1⟩

theorem of_any (v : Value) (l : List Tr) (p : Pat) (w : World) (hl : Reads encTr w v l) (hn : l.length ≤ 100000) :
    Calls Try.prog 49 #[v, vPat p] w fun e w' => ∃ v', e = .returned v' ∧ w'.ownsRow w.heap.size 39 9 v' (l.filter fun t => fits t p).length ((l.filter fun t => fits t p).flatMap encTr) ∧ Ext w w' := by
  go_enter Try.func49, Try.ntmps49
  go_upto_region 1 with fail
  have hb := alloc_heap_new w (.cells #[.string p.s.var, .int .i64 p.s.term.kind, .string p.s.term.s, .string p.s.term.lang, .string p.p.var, .int .i64 p.p.term.kind, .string p.p.term.s, .string p.p.term.lang, .string p.o.var, .int .i64 p.o.term.kind, .string p.o.term.s, .string p.o.term.lang] 44)
  have hx := (Ext.refl w).alloc (.cells #[.string p.s.var, .int .i64 p.s.term.kind, .string p.s.term.s, .string p.s.term.lang, .string p.p.var, .int .i64 p.p.term.kind, .string p.p.term.s, .string p.p.term.lang, .string p.o.var, .int .i64 p.o.term.kind, .string p.o.term.s, .string p.o.term.lang] 44)
  generalize hwb : World.alloc w _ = wb at hb hx ⊢
  clear hwb
  have hlt : w.heap.size < wb.heap.size := (Array.getElem?_eq_some_iff.1 hb).1
  have hcl := clone_tr v l wb (hl.ext hx) hn
  have hdel : ∀ v1 w1, w1.ownsRow wb.heap.size 39 9 v1 l.length (l.flatMap encTr) → Ext wb w1 → Calls Try.prog 92 #[v1, .func (.func 94) #[] #[.pointer (some ⟨w.heap.size, 0, none⟩)]] w1 fun e w' => ∃ v', e = .returned v' ∧
      w'.ownsRow w.heap.size 39 9 v' (l.filter fun t => fits t p).length ((l.filter fun t => fits t p).flatMap encTr) ∧ Ext w w' := fun v1 w1 ho hx1 => by
    have := deleteFunc_tr v1 l w1 wb.heap.size 94 #[.pointer (some ⟨w.heap.size, 0, none⟩)] (fun t => !fits t p) ho hx1.size
      ⟨Go.Proofs.enters_of Try.func94 (by kernel_rfl) rfl, fun W x _ hW => of1_any x p w.heap.size W (by rw [hW.block _ hlt, hx1.block _ hlt]; exact hb)⟩
    refine this.mono fun e w' ⟨v', h1, h2, h3⟩ => ⟨v', h1, ?_, ?_⟩
    · simp only [Bool.not_not] at h2; exact own_mono h2 hx.size
    · exact Ext.trans hx (Below.trans hx1 h3)
  have HD := Lib.hid (And.intro hcl hdel)
  clear hcl hdel hb hx hlt hl
  go_wp2_with (first | (go_at_call 93; refine HD.out.1.mono ?_; rintro e w1 ⟨v1, rfl, ho1, hx1⟩) | (go_at_call 92; refine (HD.out.2 _ _ ho1 hx1).mono ?_; rintro e w2 ⟨v2, rfl, ho2, hx2⟩))
  go_ret
  exact ⟨_, rfl, ho2, hx2⟩

theorem vars_bad {p : Pat} {n : Int} (h : patErr p = some n) (w : World) : Calls Try.prog 34 #[vPat p] w fun e w' => e = .returned (.tuple #[.slice none 0 0, eV n]) ∧ Ext w w' :=
  (vars_any p w).mono fun e w' hh => by
    rcases hh with ⟨m, h1, h2, h3⟩ | ⟨h1, _⟩
    · rw [h] at h1; cases h1; exact ⟨h2, h3⟩
    · rw [h] at h1; cases h1
theorem vars_ok {p : Pat} (h : patErr p = none) (w : World) : Calls Try.prog 34 #[vPat p] w fun e w' => ∃ v, e = .returned (.tuple #[v, .nilIface]) ∧ w'.ownsRow w.heap.size 9 1 v (patVars p).length ((patVars p).map Value.string) ∧ Ext w w' :=
  (vars_any p w).mono fun e w' hh => by
    rcases hh with ⟨m, h1, _⟩ | ⟨_, h2⟩
    · rw [h] at h1; cases h1
    · exact h2

/-- what keeps a match from being told -/
def matchErr (l : List Tr) (p : Pat) : Option Int := (setErr l).or (patErr p)
def MatchPost (l : List Tr) (p : Pat) (w : World) (e : Ending) (w' : World) : Prop :=
  (∃ n, matchErr l p = some n ∧ e = .returned (.tuple #[.slice none 0 0, eV n]) ∧ Ext w w') ∨
  (matchErr l p = none ∧ ∃ v, e = .returned (.tuple #[v, .nilIface]) ∧ w'.ownsRow w.heap.size 39 9 v (l.filter fun t => fits t p).length ((l.filter fun t => fits t p).flatMap encTr) ∧ Ext w w')

theorem setErr_len {l : List Tr} (h : setErr l = none) : l.length ≤ 200 := by
  unfold setErr at h
  split at h
  · cases h
  · omega

theorem match_any (v : Value) (l : List Tr) (p : Pat) (w : World) (hl : Reads encTr w v l) : Calls Try.prog 42 #[v, vPat p] w (MatchPost l p w) := by
  have hsort := fun W (h : Ext w W) => sorted_any v l W (hl.ext h)
  have hbad := fun n (h : patErr p = some n) W => vars_bad h W
  have hok := fun (h : patErr p = none) W => vars_ok h W
  have hof := fun W (h : Ext w W) (hn : l.length ≤ 100000) => of_any v l p W (hl.ext h) hn
  obtain ⟨P0, hP0⟩ : ∃ P0, P0 = p := ⟨_, rfl⟩
  have hME : matchErr l P0 = (setErr l).or (patErr p) := by rw [hP0]; rfl
  rw [show MatchPost l p w = MatchPost l P0 w by rw [hP0]]
  have hPost : ∀ (v : Value) (w' : World), w'.ownsRow w.heap.size 39 9 v (l.filter fun t => fits t p).length ((l.filter fun t => fits t p).flatMap encTr) → w'.ownsRow w.heap.size 39 9 v (l.filter fun t => fits t P0).length ((l.filter fun t => fits t P0).flatMap encTr) := by rw [hP0]; exact fun _ _ h => h
  clear hP0
  have hb := alloc_heap_new w (.cells #[.string p.s.var, .int .i64 p.s.term.kind, .string p.s.term.s, .string p.s.term.lang, .string p.p.var, .int .i64 p.p.term.kind, .string p.p.term.s, .string p.p.term.lang, .string p.o.var, .int .i64 p.o.term.kind, .string p.o.term.s, .string p.o.term.lang] 44)
  have hx := (Ext.refl w).alloc (.cells #[.string p.s.var, .int .i64 p.s.term.kind, .string p.s.term.s, .string p.s.term.lang, .string p.p.var, .int .i64 p.p.term.kind, .string p.p.term.s, .string p.p.term.lang, .string p.o.var, .int .i64 p.o.term.kind, .string p.o.term.s, .string p.o.term.lang] 44)
  cases hE : setErr l with
  | some n =>
    rw [hE] at hsort hME
    dsimp only [errV] at hsort
    have HH := Lib.hid (And.intro hsort hME)
    clear hsort hbad hok hof hME hPost hE hb hx hl
    go_enter Try.func42, Try.ntmps42
    go_wp2_with (go_at_call 14; refine (HH.out.1 _ ((Ext.refl w).alloc _)).mono ?_; rintro e w1 ⟨rfl, hx1⟩)
    go_ret2
    exact .inl ⟨n, by rw [HH.out.2]; rfl, rfl, ((Ext.refl w).alloc _).trans hx1⟩
  | none =>
    have hlen := setErr_len hE
    rw [hE] at hsort hME
    dsimp only [errV] at hsort
    have h5 : l.length ≤ 100000 := by omega
    cases hPE : patErr p with
    | some n =>
      rw [hPE] at hME
      have HH := Lib.hid (And.intro hsort (And.intro hME (hbad n hPE)))
      clear hsort hbad hok hof hME hPost hE hl hPE
      go_enter Try.func42, Try.ntmps42
      go_upto_region 1 with fail
      generalize hwb : World.alloc w _ = wb at hb hx ⊢
      clear hwb
      go_upto_region 4 with (go_at_call 14; refine (HH.out.1 _ hx).mono ?_; rintro e w1 ⟨rfl, hx1⟩)
      have A1 := cells_at (heap_ext hx1 hb)
      go_wp2_with (go_at_call 34; refine (HH.out.2.2 _).mono ?_; rintro e w2 ⟨rfl, hx2⟩)
      go_ret2
      exact .inl ⟨n, by rw [HH.out.2.1]; rfl, rfl, hx.trans (hx1.trans hx2)⟩
    | none =>
      rw [hPE] at hME
      have HH := Lib.hid (And.intro hsort (And.intro hME (And.intro (hok hPE) (And.intro hof hPost))))
      clear hsort hbad hok hof hME hPost hE hl hPE
      go_enter Try.func42, Try.ntmps42
      go_upto_region 1 with fail
      generalize hwb : World.alloc w _ = wb at hb hx ⊢
      clear hwb
      go_upto_region 4 with (go_at_call 14; refine (HH.out.1 _ hx).mono ?_; rintro e w1 ⟨rfl, hx1⟩)
      have A1 := cells_at (heap_ext hx1 hb)
      go_upto_region 7 with (go_at_call 34; refine (HH.out.2.2.1 _).mono ?_; rintro e w2 ⟨va, rfl, _, hx2⟩)
      have A2 := cells_at (heap_ext (hx1.trans hx2) hb)
      have hx3 := hx.trans (hx1.trans hx2)
      clear A1 hb
      go_wp2_with (go_at_call 49; refine (HH.out.2.2.2.1 _ hx3 h5).mono ?_; rintro e w3 ⟨v3, rfl, ho3, hx4⟩)
      go_ret2
      exact .inr ⟨by rw [HH.out.2.1]; rfl, _, rfl, HH.out.2.2.2.2 _ _ (own_mono ho3 hx3.size), hx3.trans hx4⟩

theorem count_any (v : Value) (l : List Tr) (p : Pat) (w : World) (hl : Reads encTr w v l) : Calls Try.prog 16 #[v, vPat p] w fun e w' =>
    e = .returned (.tuple #[.int .i64 (if (matchErr l p).isSome = true then (0 : Nat) else (l.filter fun t => fits t p).length : Nat), errV (matchErr l p)]) ∧ Ext w w' := by
  have hm := fun W (h : Ext w W) => match_any v l p W (hl.ext h)
  obtain ⟨ME, hME⟩ : ∃ ME, ME = matchErr l p := ⟨_, rfl⟩
  obtain ⟨N, hN⟩ : ∃ N, N = (l.filter fun t => fits t p).length := ⟨_, rfl⟩
  rw [← hME, ← hN]
  cases ME with
  | some n =>
    have hc : ∀ W, Ext w W → Calls Try.prog 42 #[v, vPat p] W fun e w' => e = .returned (.tuple #[.slice none 0 0, eV n]) ∧ Ext W w' := fun W h => (hm W h).mono fun e w' hh => by
      rcases hh with ⟨m, h1, h2, h3⟩ | ⟨h1, _⟩
      · rw [← hME] at h1; cases h1; exact ⟨h2, h3⟩
      · rw [← hME] at h1; cases h1
    have HH := Lib.hid hc
    clear hc hm hME hN hl
    dsimp only [errV, Option.isSome, if_true]
    go_enter Try.func16, Try.ntmps16
    go_wp2_with (go_at_call 42; refine (HH.out _ ((Ext.refl w).alloc _)).mono ?_; rintro e w1 ⟨rfl, hx1⟩)
    go_ret2
    exact ⟨rfl, ((Ext.refl w).alloc _).trans hx1⟩
  | none =>
    have hc : ∀ W, Ext w W → Calls Try.prog 42 #[v, vPat p] W fun e w' => ∃ a c, e = .returned (.tuple #[.slice a N c, .nilIface]) ∧ Ext W w' := fun W h => (hm W h).mono fun e w' hh => by
      rcases hh with ⟨m, h1, _⟩ | ⟨_, v, h2, h3, h4⟩
      · rw [← hME] at h1; cases h1
      · rw [← hN] at h3
        obtain ⟨_, ⟨rfl, h0⟩ | ⟨g, cap, cur, rfl, _⟩⟩ := h3
        · exact ⟨none, 0, by rw [h2, h0], h4⟩
        · exact ⟨_, _, h2, h4⟩
    have HH := Lib.hid hc
    clear hc hm hME hN hl
    dsimp only [errV, Option.isSome, if_true]
    go_enter Try.func16, Try.ntmps16
    go_wp2_with (go_at_call 42; refine (HH.out _ ((Ext.refl w).alloc _)).mono ?_; rintro e w1 ⟨a1, c1, rfl, hx1⟩)
    go_ret2
    exact ⟨rfl, ((Ext.refl w).alloc _).trans hx1⟩
end Go.Proofs.Ytommohepbpdmdaa
