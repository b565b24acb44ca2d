/- Bytes of sets: what code.puts and code.Set do to the world. -/
import Derived.Test.YtommohepbpdmdaaCodePut
import Derived.Test.YtommohepbpdmdaaSorted
namespace Go.Proofs.Ytommohepbpdmdaa
open Go.RowKit
set_option maxHeartbeats 1600000
set_option maxRecDepth 100000

/-- a term that fits -/
structure TmFit (t : Tm) : Prop where
  k1 : 1 ≤ t.kind
  k3 : t.kind ≤ 3
  s : t.s.size ≤ 24
  g : t.lang.size ≤ 2
  plain : t.kind ≠ 3 → t.lang.size = 0
theorem TmFit.of_ok {t : Tm} (h : tmErr t = none) : TmFit t := by
  unfold tmErr at h
  split at h
  · cases h
  · split at h
    · cases h
    · split at h
      · cases h
      · split at h
        · cases h
        · rename_i h1 h2 h3 h4
          have h4' : langBad t = false := by simpa using h4
          unfold langBad at h4'
          rw [isEmpty_bytes] at h4'
          refine ⟨by omega, by omega, by omega, ?_, fun hk => ?_⟩
          · by_cases e : t.lang.size = 0
            · omega
            · simp [e] at h4'; omega
          · by_cases e : t.lang.size = 0
            · omega
            · simp [e, hk] at h4'
structure TrFit (t : Tr) : Prop where
  s : TmFit t.s
  p : TmFit t.p
  o : TmFit t.o
  shape : trShape t = true
theorem TrFit.of_ok {t : Tr} (h : trErr t = none) : TrFit t := by
  unfold trErr at h
  cases h1 : tmErr t.s <;> cases h2 : tmErr t.p <;> cases h3 : tmErr t.o <;> simp [h1, h2, h3] at h
  exact ⟨TmFit.of_ok h1, TmFit.of_ok h2, TmFit.of_ok h3, by simpa using h⟩
theorem firstErr_none {f : Nat → Option Int} : ∀ {n : Nat}, firstErr f n = none → ∀ i, i < n → f i = none
  | 0, _, i, hi => absurd hi (Nat.not_lt_zero _)
  | n + 1, h, i, hi => by
    rw [firstErr] at h
    cases h1 : firstErr f n with
    | some e => rw [h1] at h; cases h
    | none =>
      rw [h1] at h
      by_cases e : i = n
      · subst e; exact h
      · exact firstErr_none h1 i (by omega)
theorem fits_of_ok {l : List Tr} (h : setErr l = none) : l.length ≤ 200 ∧ ∀ i (hi : i < l.length), TrFit l[i] := by
  unfold setErr at h
  split at h
  · cases h
  · rename_i h200
    refine ⟨by omega, fun i hi => ?_⟩
    have h1 := firstErr_none h i hi
    unfold setErrAt at h1
    rw [getD_at hi] at h1
    cases h2 : trErr l[i] with
    | none => exact TrFit.of_ok h2
    | some e => rw [h2] at h1; cases h1

def codeTr (t : Tr) : List UInt8 := codeTm t.s ++ codeTm t.p ++ codeTm t.o
/-- a set as bytes -/
def codeSet (l : List Tr) : List UInt8 := [UInt8.ofNat (l.length / 256), UInt8.ofNat l.length] ++ l.flatMap codeTr

theorem codeTr_length (t : Tr) : (codeTr t).length = 6 + t.s.lang.size + t.s.s.size + t.p.lang.size + t.p.s.size + t.o.lang.size + t.o.s.size := by
  simp only [codeTr, List.length_append, codeTm_length]; omega
theorem codeTr_le {t : Tr} (h : TrFit t) : (codeTr t).length ≤ 84 := by
  rw [codeTr_length]
  have := h.s.s; have := h.s.g; have := h.p.s; have := h.p.g; have := h.o.s; have := h.o.g
  omega
theorem code_take {l : List Tr} {j : Nat} (h : j < l.length) : (l.take (j + 1)).flatMap codeTr = (l.take j).flatMap codeTr ++ codeTr l[j] := by
  rw [List.take_succ_eq_append_getElem h, List.flatMap_append]; simp
theorem code_le {l : List Tr} (h : ∀ i (hi : i < l.length), TrFit l[i]) : ∀ j, j ≤ l.length → ((l.take j).flatMap codeTr).length ≤ 84 * j
  | 0, _ => by simp
  | j + 1, hj => by
    rw [code_take (by omega), List.length_append]
    have := code_le h j (by omega)
    have := codeTr_le (h j (by omega))
    omega

theorem puts_any (w0 : World) (v va : Value) (L0 : List UInt8) (l : List Tr) (w : World) (ho : w.ownsRow w0.heap.size 5 1 v L0.length (bcells L0)) (hb : Below w0.heap.size w0 w) (hL : L0.length ≤ 100000)
    (hl : Reads encTr w0 va l) (h200 : l.length ≤ 200) (hfit : ∀ i (hi : i < l.length), TrFit l[i]) :
    Calls Try.prog 39 #[v, va] w fun e w' => ∃ v', e = .returned v' ∧ w'.ownsRow w0.heap.size 5 1 v' (L0 ++ codeSet l).length (bcells (L0 ++ codeSet l)) ∧ Grows w0.heap.size 5 w w' := by
  obtain ⟨a, cap, rfl, hcap, hmax, hcells⟩ := hl
  unfold maxLen at hmax
  obtain ⟨i0, hi, hz0, hz1, hz2⟩ : ∃ i, Try.prog.info? 5 = some i ∧ i.zero = some (.int .u8 0) ∧ i.size = 1 ∧ i.bytes = 1 := ⟨_, rfl, rfl, rfl, rfl⟩
  obtain ⟨M, hM⟩ : ∃ M : Nat → List UInt8, M = fun j => L0 ++ [UInt8.ofNat (l.length / 256), UInt8.ofNat l.length] ++ (l.take j).flatMap codeTr := ⟨_, rfl⟩
  have hset : L0 ++ codeSet l = M l.length := by subst hM; simp [codeSet]
  have hle : ∀ j, j ≤ l.length → (M j).length ≤ 100000 + 2 + 84 * j := fun j hj => by
    have := code_le hfit j hj
    subst hM; simp only [List.length_append, List.length_cons, List.length_nil]; omega
  have hnext : ∀ j (h : j < l.length), M (j + 1) = M j ++ codeTm l[j].s ++ codeTm l[j].p ++ codeTm l[j].o := fun j h => by
    subst hM; dsimp only; rw [code_take h]; simp [codeTr]
  have hzero : bcells (M 0) = bcells L0 ++ [.int .u8 ((l.length : Int) / 256), .int .u8 (l.length : Int)] ∧ (M 0).length = L0.length + 2 := by
    have e1 : ((UInt8.ofNat (l.length / 256)).toNat : Int) = (l.length : Int) / 256 := by simp; omega
    have e2 : ((UInt8.ofNat l.length).toNat : Int) = l.length := by simp; omega
    subst hM
    rw [← e1, ← e2]; simp [bcells]
  rw [hset]
  have HS := Lib.hid (And.intro hnext (And.intro hle hfit))
  clear hset hle hfit hM hnext
  go_enter Try.func39, Try.ntmps39
  go_wp2_with (at_builtin; refine wpList_append_own _ rfl _ _ 95 rfl w0.heap.size 5 i0 (.int .u8 0) 1 1 Try.underlying95 hi hz0 hz1 hz2 rfl (by decide) _ _ _ rfl (ho.alloc _) ⟨w.heap.size, 0, none⟩ 2 2 [.int .u8 ((l.length : Int) / 256), .int .u8 (l.length : Int)] rfl rfl ?c1 ?c2 ?c3 ?c4 ?c5 ?_)
  case c1 => exact fun j u hj => cells_new w #[.int .u8 ((l.length : Int) / 256), .int .u8 (l.length : Int)] 5 w.heap.size rfl j u hj
  case c2 => intro u hu; simp at hu; rcases hu with rfl | rfl <;> rfl
  case c3 => unfold maxLen; omega
  case c4 => omega
  case c5 => have := hb.size; simp; omega
  intro v1 w1 hown1 hg1 _
  have hbw : w0.heap.size ≤ (w.alloc (.cells #[.int .u8 ((l.length : Int) / 256), .int .u8 (l.length : Int)] 5)).heap.size := by have := hb.size; simp; omega
  have hG1 : Grows w0.heap.size 5 w w1 := (Grows.of_ext ((Ext.refl w).alloc _) hb.size).trans (Grows.own (ho.alloc _) hg1 hbw)
  have hown2 : w1.ownsRow w0.heap.size 5 1 v1 (M 0).length (bcells (M 0)) := by rw [hzero.1, hzero.2]; exact hown1
  clear hzero
  clear hg1 hown1 hbw
  go_wp2
  go_loopw [0, 19] (fun bv jv wr => ∃ j : Nat, jv = .int .i64 j ∧ j ≤ l.length ∧ wr.ownsRow w0.heap.size 5 1 bv (M j).length (bcells (M j)) ∧ Grows w0.heap.size 5 w wr) (fun _ jv _ => l.length - (intOf jv).toNat)
  case atStart => exact ⟨0, rfl, Nat.zero_le _, hown2, hG1⟩
  case round =>
    obtain ⟨j, rfl, hj, hown, hG⟩ := hrel
    clear hown2 hG1
    by_cases hlt : j < l.length
    · obtain ⟨b, off, rfl, hc⟩ := hcells (fun h => by simp [h] at hlt)
      obtain ⟨c0, c1, c2, c3, c4, c5, c6, c7, c8⟩ := Tr.cells hc hlt
      have hx0 : Ext w0 wr := hb.trans hG.below
      have d0 := hx0.cell c0
      have d1 := hx0.cell c1
      have d2 := hx0.cell c2
      have d3 := hx0.cell c3
      have d4 := hx0.cell c4
      have d5 := hx0.cell c5
      have d6 := hx0.cell c6
      have d7 := hx0.cell c7
      have d8 := hx0.cell c8
      have hf := HS.out.2.2 j hlt
      have hn := HS.out.1 j hlt
      have hm := HS.out.2.1 j hj
      clear c0 c1 c2 c3 c4 c5 c6 c7 c8 hcells
      generalize l[j] = t at d0 d1 d2 d3 d4 d5 d6 d7 d8 hf hn
      obtain ⟨⟨k1, s1, g1⟩, ⟨k2, s2, g2⟩, ⟨k3, s3, g3⟩⟩ := t
      dsimp only at *
      obtain ⟨hf1, hf2, hf3, _⟩ := hf
      have HP := Lib.hid (And.intro hn (And.intro hm (And.intro hf1 (And.intro hf2 hf3))))
      clear hf1 hf2 hf3 hn hm
      go_upto_region 5 with fail
      have hh := alloc_heap_new wr (.cells #[.int .i64 k1, .string s1, .string g1, .int .i64 k2, .string s2, .string g2, .int .i64 k3, .string s3, .string g3] 39)
      have hx := (Ext.refl wr).alloc (.cells #[.int .i64 k1, .string s1, .string g1, .int .i64 k2, .string s2, .string g2, .int .i64 k3, .string s3, .string g3] 39)
      generalize hwb : World.alloc wr _ = wb at hh hx ⊢
      clear hwb d0 d1 d2 d3 d4 d5 d6 d7 d8
      have ho0 := own_ext hown hx
      have hGb := hG.trans (Grows.of_ext hx hx0.size)
      have hbw : w0.heap.size ≤ wb.heap.size := Nat.le_trans hx0.size hx.size
      have A := Grows.cells (B := w0.heap.size) (T := 5) hh (by decide)
      obtain ⟨hn, hm, hf1, hf2, hf3⟩ := HP.out
      have hl1 := codeTm_length ⟨k1, s1, g1⟩
      have hl2 := codeTm_length ⟨k2, s2, g2⟩
      have hp1 := hf1.s
      have hp2 := hf1.g
      have hp3 := hf2.s
      have hp4 := hf2.g
      have hL1 : (M j ++ codeTm ⟨k1, s1, g1⟩).length ≤ 1000000 := by rw [List.length_append, hl1]; dsimp only at *; omega
      have hL2 : (M j ++ codeTm ⟨k1, s1, g1⟩ ++ codeTm ⟨k2, s2, g2⟩).length ≤ 1000000 := by rw [List.length_append, List.length_append, hl1, hl2]; dsimp only at *; omega
      have hL0 : (M j).length ≤ 1000000 := by omega
      have HF := Lib.hid (And.intro hf1 (And.intro hf2 (And.intro hf3 (And.intro hL0 (And.intro hL1 hL2)))))
      clear hn hm hf1 hf2 hf3 hl1 hl2 hp1 hp2 hp3 hp4 hL1 hL2 hL0 hh
      refine wp_region_class (Grows w0.heap.size 5 wb) [0, 1, 2, 4, 5, 7, 8] [3, 6, 9, 10] (by kernel_rfl) (by kernel_rfl) (fun _ _ h k => h.ext k hbw) (Grows.refl wb) ?_
      simp only [List.filterMap_cons, List.filterMap_nil, List.getElem?_cons_succ, List.getElem?_cons_zero]
      repeat (first | ((with_reducible refine wpFr_yes ?hw ?_); (case hw => rfl); intro K hK; go_simp; (first | (refine hK _ ?_; clear hK K) | (apply Exists.intro; refine ⟨fun x => ?_, hK _ ?_⟩; (fail); clear hK K))) | ((with_reducible refine wpFr_not ?hw ?_); (case hw => rfl); intro K hK; go_simp; (refine hK _ ?_; clear hK K)))
      refine wpFr_nil ?_
      refine wpTl_step (fun W K hW hK => ?_)
      go_simp
      refine (put_any w0.heap.size _ _ ⟨k1, s1, g1⟩ W (own_ext ho0 hW) (Nat.le_trans hbw hW.size) HF.out.2.2.2.1 HF.out.1.k1 HF.out.1.k3 HF.out.1.s HF.out.1.g).mono ?_
      rintro e wa ⟨va, rfl, hoa, hga⟩
      have hGa := ((Grows.refl wb).ext hW hbw).trans hga
      refine ⟨_, rfl, hGa, hK _ _ ?_⟩
      clear hK K hga hW
      refine wpTl_step (fun W2 K hW2 hK => ?_)
      go_simp
      refine (put_any w0.heap.size _ _ ⟨k2, s2, g2⟩ W2 (own_ext hoa hW2) (Nat.le_trans hbw (Nat.le_trans hGa.below.size hW2.size)) HF.out.2.2.2.2.1 HF.out.2.1.k1 HF.out.2.1.k3 HF.out.2.1.s HF.out.2.1.g).mono ?_
      rintro e wc ⟨vc, rfl, hoc, hgc⟩
      have hGc := (hGa.ext hW2 hbw).trans hgc
      refine ⟨_, rfl, hGc, hK _ _ ?_⟩
      clear hK K hgc hW2 hoa hGa
      refine wpTl_step (fun W3 K hW3 hK => ?_)
      go_simp
      refine (put_any w0.heap.size _ _ ⟨k3, s3, g3⟩ W3 (own_ext hoc hW3) (Nat.le_trans hbw (Nat.le_trans hGc.below.size hW3.size)) HF.out.2.2.2.2.2 HF.out.2.2.1.k1 HF.out.2.2.1.k3 HF.out.2.2.1.s HF.out.2.2.1.g).mono ?_
      rintro e wd ⟨vd, rfl, hod, hgd⟩
      have hGd := (hGc.ext hW3 hbw).trans hgd
      refine ⟨_, rfl, hGd, hK _ _ ?_⟩
      clear hK K hgd hW3 hoc hGc
      refine wpTl_step (fun W4 K hW4 hK => ?_)
      go_simp
      refine ⟨hGd.ext hW4 hbw, hK _ _ ?_⟩
      clear hK K
      refine wpTl_nil fun x hxx => ?_
      have hoz := own_ext hod (hW4.trans hxx)
      have hGz := hGb.trans (hGd.ext (hW4.trans hxx) hbw)
      rw [← HP.out.1] at hoz
      clear A hod hGd hW4 hxx hx ho0 hGb
      go_wp2
      go_roundw
      case rel => exact ⟨j + 1, vi (by omega), by omega, hoz, hGz⟩
      case measure => simp [intOf]; omega
    · have hjl : j = l.length := by omega
      subst hjl
      clear hcells
      go_wp2
      go_ret
      exact ⟨_, rfl, hown, hG⟩
end Go.Proofs.Ytommohepbpdmdaa
