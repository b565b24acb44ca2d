/- The law SetFull, in plain mathematics. -/
import Derived.Test.YtmobdmljbbckiaaDoorSetTerms
import Derived.Test.YtmobdmljbbckiaaDoorMany
namespace Go.Proofs.YtmobdmljbbckiaaDoor
set_option maxRecDepth 100000

def nmS : Tm := ⟨1, ⟨#[115]⟩, noText⟩
def nmP : Tm := ⟨1, ⟨#[112]⟩, noText⟩
def nmT : Tm := ⟨1, ⟨#[116]⟩, noText⟩
/-- many, of which the first j have another subject -/
def mixL (n j : Nat) : List Tr := (List.range n).map fun i => ⟨if i < j then nmT else nmS, nmP, textTm i⟩
theorem mixL_len (n j : Nat) : (mixL n j).length = n := by simp [mixL]
theorem mixL_zero (n : Nat) : mixL n 0 = manyL n := by
  unfold mixL manyL
  exact List.map_congr_left fun i _ => by simp [nmS, nmP]
theorem mixL_at (n j i : Nat) (h : i < (mixL n j).length) : (mixL n j)[i] = ⟨if i < j then nmT else nmS, nmP, textTm i⟩ := by simp [mixL]
theorem mixL_set (n j : Nat) : (mixL n j).set j ⟨nmT, nmP, textTm j⟩ = mixL n (j + 1) := by
  apply List.ext_getElem
  · simp [mixL_len]
  · intro i h1 h2
    rw [List.getElem_set, mixL_at, mixL_at]
    by_cases e : j = i
    · subst e; simp
    · rw [if_neg e]
      by_cases h : i < j
      · rw [if_pos h, if_pos (by omega)]
      · rw [if_neg h, if_neg (by omega)]
theorem setOk_take {l : List Tr} (h : SetOk l) (n : Nat) : SetOk (l.take n) :=
  ⟨by have := h.1; simp; omega, fun t ht => h.2.1 t (List.mem_of_mem_take ht), h.2.2.sublist (List.take_sublist _ _)⟩
set_option maxHeartbeats 4000000 in
theorem many_200 : setErr (manyL 200) = none := by decide +kernel
set_option maxHeartbeats 4000000 in
theorem mix_200 : setErr (mixL 200 200) = none := by decide +kernel
theorem many_ok200 (n : Nat) (h : n < 201) : setErr (manyL n) = none := by
  have e : manyL n = (manyL 200).take n := by
    unfold manyL
    rw [← List.map_take, List.take_range, Nat.min_eq_left (by omega)]
  rw [e]
  exact (setErr_none_iff _).2 (setOk_take ((setErr_none_iff _).1 many_200) n)
theorem mix_ok200 (n : Nat) (h : n < 201) : setErr (mixL n n) = none := by
  have e : mixL n n = (mixL 200 200).take n := by
    apply List.ext_getElem
    · simp [mixL_len]; omega
    · intro i h1 h2
      rw [List.getElem_take, mixL_at, mixL_at, if_pos (by rw [mixL_len] at h1; exact h1), if_pos (by rw [mixL_len] at h1; omega)]
  rw [e]
  exact (setErr_none_iff _).2 (setOk_take ((setErr_none_iff _).1 mix_200) n)
theorem text_nodup : ((List.range 200).map textTm).Nodup := by decide +kernel
theorem text_range (k : Nat) (h : k ≤ 200) : ((List.range k).map textTm).Nodup := by
  have e : List.range k = (List.range 200).take k := by
    rw [List.take_range, Nat.min_eq_left h]
  rw [e, List.map_take]
  exact text_nodup.sublist (List.take_sublist _ _)
theorem text_fresh (k : Nat) (h : k < 200) : textTm k ∉ (List.range k).map textTm := by
  have := text_range (k + 1) (by omega)
  rw [List.range_succ, List.map_append, List.nodup_append] at this
  exact fun hin => this.2.2 _ hin _ (by simp) rfl
theorem union_mix (a b : Nat) (ha : a ≤ 200) (hb : b ≤ 200) : (unionL cmpTr (manyL a) (mixL b b)).length = a + b := by
  have h1 := ((setErr_none_iff _).1 (many_ok200 a (by omega))).2.2.nodup law_cmpTr
  have h2 := ((setErr_none_iff _).1 (mix_ok200 b (by omega))).2.2.nodup law_cmpTr
  have h3 : (manyL a ++ mixL b b).Nodup := by
    rw [List.nodup_append]
    refine ⟨h1, h2, fun x hx y hy e => ?_⟩
    subst e
    obtain ⟨i, hi, rfl⟩ := List.mem_map.1 hx
    obtain ⟨j, hj, e⟩ := List.mem_map.1 hy
    have hj' := List.mem_range.1 hj
    rw [if_pos hj'] at e
    have := congrArg (fun t : Tr => t.s.s.data.toList) e
    simp [nmT] at this
  have hp := (List.perm_ext_iff_of_nodup ((unionL_rises law_cmpTr (manyL a) (mixL b b)).nodup law_cmpTr) h3).2 fun x => by rw [mem_unionL, List.mem_append]
  rw [hp.length_eq, List.length_append, manyL_len, mixL_len]
theorem terms_many : ∀ k, k < 200 → termsOf (manyL (k + 1)) = nmS :: nmP :: (List.range (k + 1)).map textTm
  | 0, _ => by decide +kernel
  | k + 1, h => by
    have hf := text_fresh (k + 1) h
    rw [manyL_succ, termsOf_snoc, terms_many k (by omega)]
    unfold addTr addKey
    dsimp only
    rw [if_pos (show (⟨1, ⟨#[115]⟩, noText⟩ : Tm) ∈ nmS :: nmP :: (List.range (k + 1)).map textTm from List.mem_cons_self ..), if_pos (show (⟨1, ⟨#[112]⟩, noText⟩ : Tm) ∈ nmS :: nmP :: (List.range (k + 1)).map textTm from List.mem_cons_of_mem _ (List.mem_cons_self ..)), if_neg]
    · simp [List.range_succ]
    · intro hin
      rcases List.mem_cons.1 hin with e | hin
      · exact absurd (congrArg Tm.kind e) (show ¬ (3 : Int) = 1 by decide)
      · rcases List.mem_cons.1 hin with e | hin
        · exact absurd (congrArg Tm.kind e) (show ¬ (3 : Int) = 1 by decide)
        · exact hf hin
theorem terms_len (a : Nat) (h0 : 0 < a) (h : a ≤ 200) : (termsOf (manyL a)).length = a + 2 := by
  obtain ⟨k, rfl⟩ : ∃ k, a = k + 1 := ⟨a - 1, by omega⟩
  rw [terms_many k (by omega)]
  simp
theorem many_keys (n : Nat) : ∀ t ∈ manyL n, TrKey t := by
  intro t ht
  obtain ⟨i, _, rfl⟩ := List.mem_map.1 ht
  refine ⟨⟨rfl, ?_, ?_⟩, ⟨rfl, ?_, ?_⟩, ⟨rfl, ?_, ?_⟩⟩ <;> (show _ ≤ maxLen) <;> simp [noText, textTm, textOf, ByteArray.size, maxLen]
end Go.Proofs.YtmobdmljbbckiaaDoor
