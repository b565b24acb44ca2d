/- Patterns: what match's functions do to the world. -/
import Derived.Test.YtmobdmljbbckiaaMatchPure
import Derived.Test.YtmobdmljbbckiaaTermCheck
import Derived.Test.YtmobdmljbbckiaaTmEq
namespace Go.Proofs.Ytmobdmljbbckiaa
open Go.RowKit
set_option maxHeartbeats 1600000
set_option maxRecDepth 100000

theorem neq_tm0 (a b : Tm) (w : World) : (binOp .neq 28 (vTm a) (vTm b)).run Try.prog w = .ok (.bool (decide (a ≠ b))) w := by
  go_simp
  simp only [toList_inj]
  obtain ⟨k, s, g⟩ := a
  obtain ⟨k', s', g'⟩ := b
  simp only [Tm.mk.injEq, ne_eq]
  by_cases h1 : k = k' <;> by_cases h2 : s = s' <;> by_cases h3 : g = g' <;> simp [h1, h2, h3]
@[go_sem high] theorem neq_tm (k k' : Int) (s s' g g' : ByteArray) (w : World) : (binOp .neq 28 (.agg #[.int .i64 k, .string s, .string g]) (.agg #[.int .i64 k', .string s', .string g'])).run Try.prog w = .ok (.bool (!tmEq ⟨k, s, g⟩ ⟨k', s', g'⟩)) w := by
  rw [neq_tm0 ⟨k, s, g⟩ ⟨k', s', g'⟩ w]; simp [tmEq]
theorem word1_any (c : UInt8) (w : World) : Calls Try.prog 92 #[vB c] w fun e w' => e = .returned (.bool (!isLetter c)) ∧ Ext w w' := by
  by_cases h1 : 97 ≤ c.toNat
  · by_cases h2 : c.toNat ≤ 122
    · go_enter Try.func92, Try.ntmps92
      go_wp2
      go_ret
      exact ⟨by simp [isLetter, h1, h2]; omega, Ext.refl _⟩
    · go_enter Try.func92, Try.ntmps92
      go_wp2
      go_ret
      exact ⟨by simp [isLetter, h1, h2]; omega, Ext.refl _⟩
  · go_enter Try.func92, Try.ntmps92
    go_wp2
    go_ret
    exact ⟨by simp [isLetter, h1], Ext.refl _⟩
theorem word_tells (B : Nat) (w : World) (D : UInt8 → Prop) : Tells B w 92 #[] vB (fun c => !isLetter c) D :=
  ⟨Go.Proofs.enters_of Try.func92 (by kernel_rfl) rfl, fun W x _ _ => word1_any x W⟩

/-- '[]byte(s)' reads as the bytes -/
theorem conv_reads (wb : World) (s : ByteArray) (hs : s.size ≤ maxLen) :
    ∃ c w2, (convert 9 149 (.string s)).run Try.prog wb = .ok (.slice (some ⟨wb.heap.size, 0, none⟩) s.size c) w2 ∧ Ext wb w2 ∧ Reads encB w2 (.slice (some ⟨wb.heap.size, 0, none⟩) s.size c) (bytesOf s) := by
  obtain ⟨c, w2, hcv, hx2, hcap, hmax, hcells⟩ := conv_bytes (P := Try.prog) wb 9 149 5 s Try.underlying9 Try.underlying149 Try.underlying5 hs
  have hlen : (bytesOf s).length = s.size := by simp
  refine ⟨c, w2, hcv, hx2, ?_⟩
  rw [← hlen]
  refine ⟨_, c, rfl, by simpa using hcap, hmax, fun _ => ⟨_, 0, rfl, fun t u ht => ?_⟩⟩
  have hlt : t < s.size := by
    have := (List.getElem?_eq_some_iff.1 ht).1
    rw [flat_len (k := 1) (fun _ => rfl)] at this
    omega
  have h := flat_get (enc := encB) (k := 1) (fun _ => rfl) (bytesOf s) t 0 (by simpa using hlt) (by omega)
  simp only [Nat.mul_one, Nat.add_zero] at h
  rw [h] at ht
  simp [encB] at ht
  subst ht
  rw [Nat.zero_add]
  exact hcells t hlt

theorem word_any (s : ByteArray) (w : World) : Calls Try.prog 59 #[.string s] w fun e w' => e = .returned (.bool (isWord s)) ∧ Ext w w' := by
  by_cases h10 : s.size ≤ 10
  · have hw : isWord s = (bytesOf s).all isLetter := by simp [isWord, h10]
    obtain ⟨c, w2, hcv, hx2, hR⟩ := conv_reads w s (by unfold maxLen; omega)
    have hC := containsFunc_byte _ (bytesOf s) w2 w2.heap.size 92 #[] (fun c => !isLetter c) hR (Nat.le_refl _) (word_tells _ _ _)
    have hfin : (!(bytesOf s).any fun c => !isLetter c) = isWord s := by rw [hw]; simp [List.all_eq_not_any_not]
    generalize (bytesOf s).any (fun c => !isLetter c) = r at hC hfin
    have HC := Lib.hid (And.intro hC hfin)
    clear hC hfin hR hw
    go_enter Try.func59, Try.ntmps59
    go_wp2_with (go_at_call 76; refine HC.out.1.mono ?_; rintro e w3 ⟨rfl, hx3⟩)
    go_ret
    exact ⟨by rw [← HC.out.2]; rfl, hx2.trans hx3⟩
  · have hw : isWord s = false := by simp [isWord, h10]
    have HW := Lib.hid hw
    clear hw
    go_enter Try.func59, Try.ntmps59
    go_wp2
    go_ret
    exact ⟨by rw [HW.out]; rfl, Ext.refl _⟩

section
variable (a0 a1 a2 a3 a4 a5 a6 a7 a8 a9 a10 a11 : Value) (w : World)
@[go_sem high] theorem slot_at0 : (Instr.index 77 (.agg #[a0, a1, a2, a3, a4, a5, a6, a7, a8, a9, a10, a11]) (.int .i64 0)).run Try.prog w = .ok (.agg #[a0, a1, a2, a3]) w := by kernel_rfl
@[go_sem high] theorem slot_at1 : (Instr.index 77 (.agg #[a0, a1, a2, a3, a4, a5, a6, a7, a8, a9, a10, a11]) (.int .i64 1)).run Try.prog w = .ok (.agg #[a4, a5, a6, a7]) w := by kernel_rfl
@[go_sem high] theorem slot_at2 : (Instr.index 77 (.agg #[a0, a1, a2, a3, a4, a5, a6, a7, a8, a9, a10, a11]) (.int .i64 2)).run Try.prog w = .ok (.agg #[a8, a9, a10, a11]) w := by kernel_rfl
end
theorem slots_any (p : Pat) (w : World) : Calls Try.prog 30 #[vPat p] w fun e w' => e = .returned (vPat p) ∧ Ext w w' := by
  obtain ⟨⟨v1, ⟨k1, s1, g1⟩⟩, ⟨v2, ⟨k2, s2, g2⟩⟩, ⟨v3, ⟨k3, s3, g3⟩⟩⟩ := p
  go_enter Try.func30, Try.ntmps30
  go_wp2
  (try simp only [Exit.inBlock, Exit.then])
  refine bodyPost_ret (v := vPat ⟨⟨v1, ⟨k1, s1, g1⟩⟩, ⟨v2, ⟨k2, s2, g2⟩⟩, ⟨v3, ⟨k3, s3, g3⟩⟩⟩) (results_cell rfl rfl ?_) rfl ?_
  · go_simp
  · exact ⟨rfl, ((Ext.refl w).alloc _).alloc _⟩

theorem terms_any (t : Tr) (w : World) : Calls Try.prog 95 #[vTr t] w fun e w' => e = .returned (vTr t) ∧ Ext w w' := by
  obtain ⟨⟨k1, s1, g1⟩, ⟨k2, s2, g2⟩, ⟨k3, s3, g3⟩⟩ := t
  go_enter Try.func95, Try.ntmps95
  go_wp2
  (try simp only [Exit.inBlock, Exit.then])
  refine bodyPost_ret (v := vTr ⟨⟨k1, s1, g1⟩, ⟨k2, s2, g2⟩, ⟨k3, s3, g3⟩⟩) (results_cell rfl rfl ?_) rfl ?_
  · go_simp
  · exact ⟨rfl, ((Ext.refl w).alloc _).alloc _⟩

theorem strEq_eq (a b : ByteArray) : (a.toList == b.toList) = decide (a = b) := by
  rw [Bool.eq_iff_iff, beq_iff_eq, toList_inj, decide_eq_true_eq]

theorem index_str (v : Value) (l : List ByteArray) (s : ByteArray) (w : World) (hl : Reads encS w v l) :
    Calls Try.prog 53 #[v, .string s] w fun e w' => e = .returned (.int .i64 (idxF (fun x => decide (s = x)) l)) ∧ Ext w w' := by
  obtain ⟨a, cap, rfl, hcap, hmax, hcells⟩ := hl
  unfold maxLen at hmax
  go_enter Try.func53, Try.ntmps53
  go_wp2
  go_loopw [8] (fun jv wr => ∃ j : Nat, jv = .int .i64 j ∧ j ≤ l.length ∧ Hid (∀ i (hi : i < j) (hl : i < l.length), decide (s = l[i]) = false) ∧ Ext w wr) (fun jv _ => l.length - (intOf jv).toNat)
  case atStart => exact ⟨0, rfl, Nat.zero_le _, (fun i hi => absurd hi (Nat.not_lt_zero _)), Ext.refl _⟩
  case round =>
    obtain ⟨j, rfl, hj, hb, hx⟩ := hrel
    by_cases hlt : j < l.length
    · obtain ⟨b, off, rfl, hc⟩ := hcells (fun h => by simp [h] at hlt)
      have hcx : wr.cell? ⟨b, off + j, none⟩ = some (.string l[j]) := hx.cell (Reads.one_at (enc1 := Value.string) hc hlt)
      clear hc hcells
      generalize hy : l[j] = y at hcx
      have HY := Lib.hid hy
      clear hy
      cases hp : (s.toList == y.toList) with
      | true =>
        go_wp2
        go_ret
        exact ⟨by rw [idxF_hit hlt (by rw [HY.out, ← strEq_eq]; exact hp) (fun i hi => hb.out i hi (by omega))]; rfl, hx⟩
      | false =>
        go_wp2
        go_roundw
        case rel =>
          refine ⟨j + 1, vi (by omega), hlt, (fun i hi hl => ?_), hx⟩
          by_cases e : i = j
          · subst e; rw [HY.out, ← strEq_eq]; exact hp
          · exact hb.out i (by omega) hl
        case measure => simp [intOf]; omega
    · have hjl : j = l.length := by omega
      subst hjl
      go_wp2
      go_ret
      exact ⟨by rw [idxF_miss (fun j hj => hb.out j hj hj)]; rfl, hx⟩

theorem contains_str (v : Value) (l : List ByteArray) (s : ByteArray) (w : World) (hl : Reads encS w v l) :
    Calls Try.prog 60 #[v, .string s] w fun e w' => e = .returned (.bool (l.any fun x => decide (s = x))) ∧ Ext w w' := by
  have hI := index_str v l s w hl
  have HN := Lib.hid (idxF_nonneg (fun x => decide (s = x)) l)
  generalize idxF (fun x => decide (s = x)) l = r at hI HN
  clear hl
  go_enter Try.func60, Try.ntmps60
  go_wp2_with (go_at_call 53; refine hI.mono ?_; rintro e w1 ⟨rfl, hx1⟩)
  go_ret
  exact ⟨by rw [← HN.out]; rfl, hx1⟩
end Go.Proofs.Ytmobdmljbbckiaa
