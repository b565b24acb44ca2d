/- Arguments, opened from what they read as to what lies: of whatever program. -/
import Derived.Test.YtmobdmljbbckiaaBase
import Derived.Deep.Slices
import Derived.Lib.SmallJoins
namespace Go.Proofs.Ytmobdmljbbckiaa
open Go.ChangeShapes Go.WideShapes Go.RowKit

/-- What reads as data at type T lies as 'enc a', and 'good'. -/
structure Opens (P : Program) (T : TypeId) (k : Nat) {α : Type} (enc : α → List Value) (good : World → α → Prop) : Prop where
  cells : P.cellsOf T = k
  len : ∀ a, (enc a).length = k
  fits : ∀ {H : Type} (hv : TypeId × Value → H) (w : World) (fuel : Nat) (cs : List Value) (x : DataW H × List MemPlace), DataW.trod hv P w 0 (fun _ => true) true fuel T cs = some x → ∃ a, cs = enc a ∧ good w a

section
variable {P : Program}
theorem Opens.int {T : TypeId} (ht : P.underlying T = some (.int .i64)) (hc : P.cellsOf T = 1) : Opens P T 1 (fun n : Int => [.int .i64 n]) (fun _ n => (Lit.int .i64 n).wf = true) :=
  ⟨hc, fun _ => rfl, fun _ _ _ _ _ h => let ⟨n, h1, _, h3⟩ := DataW.trod_int ht h; ⟨n, h1, h3⟩⟩
theorem Opens.string {T : TypeId} (ht : P.underlying T = some .string) (hc : P.cellsOf T = 1) : Opens P T 1 (fun s : ByteArray => [.string s]) (fun _ s => s.size ≤ maxLen) :=
  ⟨hc, fun _ => rfl, fun _ _ _ _ _ h => let ⟨n, h1, _, h3⟩ := DataW.trod_string ht h; ⟨n, h1, h3⟩⟩
theorem Opens.bool {T : TypeId} (ht : P.underlying T = some .bool) (hc : P.cellsOf T = 1) : Opens P T 1 (fun b : Bool => [.bool b]) (fun _ _ => True) :=
  ⟨hc, fun _ => rfl, fun _ _ _ _ _ h => let ⟨n, h1, _⟩ := DataW.trod_bool ht h; ⟨n, h1, trivial⟩⟩
theorem Opens.map {T : TypeId} {k : Nat} {α β : Type} {enc : α → List Value} {good : World → α → Prop} {enc' : β → List Value} {good' : World → β → Prop} (h : Opens P T k enc good) (f : α → β)
    (hl : ∀ b, (enc' b).length = k) (he : ∀ a, enc a = enc' (f a)) (hg : ∀ w a, good w a → good' w (f a)) : Opens P T k enc' good' :=
  ⟨h.cells, hl, fun hv w fuel cs x hx => let ⟨a, h1, h2⟩ := h.fits hv w fuel cs x hx; ⟨f a, h1.trans (he a), hg w a h2⟩⟩

/-- a list that a slice of such reads as -/
def ReadsGood {α : Type} (enc : α → List Value) (good : World → α → Prop) (w : World) (v : Value) : Prop := ∃ l, Reads enc w v l ∧ ∀ x ∈ l, good w x

theorem Opens.slice {T e : TypeId} {k : Nat} {α : Type} [Inhabited α] {enc : α → List Value} {good : World → α → Prop} (h : Opens P e k enc good) (hk : 0 < k) (ht : P.underlying T = some (.slice e)) (hc : P.cellsOf T = 1) :
    Opens P T 1 (fun v : Value => [v]) (ReadsGood enc good) := by
  refine ⟨hc, fun _ => rfl, fun hv w fuel cs x hx => ?_⟩
  rcases Deep.open_slice ht hx with ⟨rfl, _⟩ | ⟨a, len, cap, m, n, D, Pl, rfl, _, hl, hm, hmm, rfl, hel⟩
  · exact ⟨_, rfl, [], Reads.nil enc w none 0 (by decide), fun x hx => by cases hx⟩
  · simp only [if_true] at hmm
    subst hmm
    rw [h.cells] at hel
    obtain ⟨f, hf⟩ := Deep.choose_lt (n := len) (p := fun i (a' : α) => w.cells? 0 (a.add (i * k)) k = some (enc a') ∧ good w a') (fun i hi => by
      obtain ⟨cs', h1, h2⟩ := hel i (by omega)
      obtain ⟨a', rfl, hg⟩ := h.fits hv w n cs' _ h2
      exact ⟨a', h1, hg⟩)
    refine ⟨_, rfl, (List.range len).map f, ⟨some a, m, by simp, by simpa using hl, hm, fun hne => ?_⟩, fun x hx => ?_⟩
    · have hpos : 0 < len := by
        cases len with
        | zero => simp at hne
        | succ n => omega
      have hone : ∀ i, i < len → ∀ c, c < k → w.cell? ((a.add (i * k)).add c) = (enc (f i))[c]? := fun i hi c hc' => (World.cells?_some (hf i hi).1).2.2 c hc'
      obtain ⟨b, off, spot⟩ := a
      have hspot : spot = none := by
        have h0 := hone 0 hpos 0 hk
        have hsome : (enc (f 0))[0]? = some ((enc (f 0))[0]'(by rw [h.len]; exact hk)) := List.getElem?_eq_getElem _
        rw [hsome] at h0
        simpa [Addr.add] using World.cell?_spot h0
      subst hspot
      refine ⟨b, off, rfl, fun t u htu => ?_⟩
      have htl : t < len * k := by
        have := (List.getElem?_eq_some_iff.1 htu).1
        rw [flat_len (fun x => h.len x)] at this
        simpa using this
      have hi : t / k < len := Nat.div_lt_of_lt_mul (by rw [Nat.mul_comm]; exact htl)
      have hcm : t % k < k := Nat.mod_lt _ hk
      have hdec : t / k * k + t % k = t := by rw [Nat.mul_comm]; exact Nat.div_add_mod t k
      have h1 := hone (t / k) hi (t % k) hcm
      rw [Deep.add_add, hdec, add_plain] at h1
      rw [h1]
      have h2 := flat_get (fun x => h.len x) ((List.range len).map f) (t / k) (t % k) (by simpa using hi) hcm
      rw [hdec] at h2
      rw [← htu, h2]
      simp
    · obtain ⟨i, hi, rfl⟩ := List.mem_map.1 hx
      exact (hf i (List.mem_range.1 hi)).2

theorem cut2 {cs : List Value} {a b : Nat} (h : cs.length = a + b) : cs = cs.take a ++ (cs.drop a).take b := by
  rw [List.take_of_length_le (l := cs.drop a) (by simp; omega), List.take_append_drop]

theorem Opens.struct2 {T : TypeId} {f0 f1 : Field} {k0 k1 : Nat} {α β : Type} {e0 : α → List Value} {g0 : World → α → Prop} {e1 : β → List Value} {g1 : World → β → Prop}
    (ht : P.underlying T = some (.struct #[f0, f1])) (hc : P.cellsOf T = k0 + k1) (h0 : Opens P f0.type k0 e0 g0) (h1 : Opens P f1.type k1 e1 g1) (o0 : f0.offset = 0) (o1 : f1.offset = k0) :
    Opens P T (k0 + k1) (fun a : α × β => e0 a.1 ++ e1 a.2) (fun w a => g0 w a.1 ∧ g1 w a.2) := by
  refine ⟨hc, fun a => by simp [h0.len, h1.len], fun hv w fuel cs x hx => ?_⟩
  obtain ⟨xs, n, _, _, hl, hxl, hf⟩ := DataW.trod_struct ht hx
  match xs, hxl with
  | [y0, y1], _ =>
    have t0 := hf 0 f0 rfl
    have t1 := hf 1 f1 rfl
    rw [o0, h0.cells] at t0
    rw [o1, h1.cells] at t1
    obtain ⟨a, ha, ga⟩ := h0.fits hv w n _ _ t0
    obtain ⟨b, hb, gb⟩ := h1.fits hv w n _ _ t1
    exact ⟨(a, b), (cut2 (hl.trans hc)).trans (by rw [← ha, ← hb]; rfl), ga, gb⟩

theorem Opens.struct3 {T : TypeId} {f0 f1 f2 : Field} {k0 k1 k2 : Nat} {α β γ : Type} {e0 : α → List Value} {g0 : World → α → Prop} {e1 : β → List Value} {g1 : World → β → Prop} {e2 : γ → List Value} {g2 : World → γ → Prop}
    (ht : P.underlying T = some (.struct #[f0, f1, f2])) (hc : P.cellsOf T = k0 + k1 + k2) (h0 : Opens P f0.type k0 e0 g0) (h1 : Opens P f1.type k1 e1 g1) (h2 : Opens P f2.type k2 e2 g2)
    (o0 : f0.offset = 0) (o1 : f1.offset = k0) (o2 : f2.offset = k0 + k1) :
    Opens P T (k0 + k1 + k2) (fun a : α × β × γ => e0 a.1 ++ e1 a.2.1 ++ e2 a.2.2) (fun w a => g0 w a.1 ∧ g1 w a.2.1 ∧ g2 w a.2.2) := by
  refine ⟨hc, fun a => by simp [h0.len, h1.len, h2.len]; omega, fun hv w fuel cs x hx => ?_⟩
  obtain ⟨xs, n, _, _, hl, hxl, hf⟩ := DataW.trod_struct ht hx
  match xs, hxl with
  | [y0, y1, y2], _ =>
    have t0 := hf 0 f0 rfl
    have t1 := hf 1 f1 rfl
    have t2 := hf 2 f2 rfl
    rw [o0, h0.cells] at t0
    rw [o1, h1.cells] at t1
    rw [o2, h2.cells] at t2
    obtain ⟨a, ha, ga⟩ := h0.fits hv w n _ _ t0
    obtain ⟨b, hb, gb⟩ := h1.fits hv w n _ _ t1
    obtain ⟨c, hc', gc⟩ := h2.fits hv w n _ _ t2
    refine ⟨(a, b, c), ?_, ga, gb, gc⟩
    have e1 := cut2 (cs := cs) (a := k0) (b := k1 + k2) (by rw [hl, hc]; omega)
    have e2 := cut2 (cs := cs.drop k0) (a := k1) (b := k2) (by rw [List.length_drop, hl, hc]; omega)
    rw [List.take_of_length_le (l := cs.drop k0) (by simp [hl, hc]; omega), e2, List.drop_drop] at e1
    rw [e1]
    dsimp only
    rw [← ha, ← hb, ← hc', List.append_assoc]
    rfl

section
variable {T : TypeId} {H : Type} {hv : TypeId × Value → H} {w : World} {r : Reach} {b0 : Nat} {v : Value} {d : DataW H} {ps : List MemPlace}
theorem Opens.vslice {e : TypeId} {k : Nat} {α : Type} [Inhabited α] {enc : α → List Value} {good : World → α → Prop} (h : Opens P e k enc good) (hk : 0 < k) (ht : P.underlying T = some (.slice e)) (hc : P.cellsOf T = 1)
    (hval : Value.okWide P w r b0 T v) (hd : DataW.Trod hv P w 0 (fun _ => true) true T v d ps) : ReadsGood enc good w v := by
  obtain ⟨a, l, c, rfl⟩ := okWide_slice ht hval
  obtain ⟨fuel, hf⟩ := hd
  obtain ⟨v', hv', hg⟩ := (h.slice hk ht hc).fits hv w fuel _ _ hf
  simp [Value.cells] at hv'
  subst hv'
  exact hg
theorem Opens.vagg {fs : Array Field} {k : Nat} {α : Type} {enc : α → List Value} {good : World → α → Prop} (h : Opens P T k enc good) (ht : P.underlying T = some (.struct fs))
    (hval : Value.okWide P w r b0 T v) (hd : DataW.Trod hv P w 0 (fun _ => true) true T v d ps) : ∃ a, v = .agg (enc a).toArray ∧ good w a := by
  obtain ⟨cs, rfl, _⟩ := okWide_struct ht hval
  obtain ⟨fuel, hf⟩ := hd
  obtain ⟨a, ha, hg⟩ := h.fits hv w fuel _ _ hf
  refine ⟨a, ?_, hg⟩
  simp only [Value.cells] at ha
  rw [← ha]
end
end
end Go.Proofs.Ytmobdmljbbckiaa
