/- A region whose order is open: one walk in an order of one's own serves every order: first the operations that answer the same in every world of a class, then those that stand alone, one behind the other, and may answer with what hangs on the world. Of whatever program. -/
import Derived.Test.YtmobdmljbbckiaaBase
import Derived.Orders
import Derived.Still
import Derived.Deep.Quiet
namespace Go.Proofs.Ytmobdmljbbckiaa
open Go.RowKit

/-- A world of a class, or that at which one began. -/
structure InC (w0 : World) (C : World → Prop) where
  wd : World
  ok : wd = w0 ∨ C wd

def InC.self (w0 : World) (C : World → Prop) : InC w0 C := ⟨w0, .inl rfl⟩
theorem InC.get {w0 : World} {C : World → Prop} (h : C w0) (x : InC w0 C) : C x.wd := by
  rcases x.ok with e | e
  · rw [e]; exact h
  · exact e

@[go_sem] theorem forall_inC {w0 : World} {C : World → Prop} {p : Prop} : (∀ _ : InC w0 C, p) ↔ p := ⟨fun h => h (InC.self w0 C), fun h _ => h⟩

section
variable {P : Program} {ops : Array Oper} {md : Region.Mode} {C : World → Prop} {z : Nat} {w0 : World}

/-- What is asked once an operation has yielded this. -/
def okUpon (P : Program) (C : World → Prop) (w : World) (K : Act → World → Prop) (a : Act) (o : Oper) : Result Next → Prop
  | .ok (.value v) w' => C w' ∧ K (a.put o.dst v) w'
  | .ok .skip w' => C w' ∧ K (a.put o.dst undef) w'
  | .ok (.enter f args) w' => w' = w ∧ Calls P f args w fun e w'' => ∃ v, e = .returned v ∧ C w'' ∧ K (a.put o.dst v) w''
  | _ => False

def okE (P : Program) (C : World → Prop) (o : Oper) (a : Act) (w : World) (K : Act → World → Prop) : Prop := okUpon P C w K a o ((execOp a.eval o).run P w)

/-- One value in every world of the class; the world goes on growing. -/
def sureUpon (P : Program) (w : World) (v : Value) : Result Next → Prop
  | .ok (.value u) w' => w' = w ∧ u = v
  | .ok (.enter f args) w' => w' = w ∧ Calls P f args w fun e w'' => e = .returned v ∧ Ext w w''
  | _ => False

def sureAt (P : Program) (o : Oper) (a : Act) (w : World) (v : Value) : Prop := sureUpon P w v ((execOp a.eval o).run P w)

def sure (P : Program) (w0 : World) (C : World → Prop) (o : Oper) (a : Act) (K : Act → Prop) : Prop := ∃ v, (∀ x : InC w0 C, sureAt P o a x.wd v) ∧ K (a.put o.dst v)

/-- The first operations. -/
def wpFr (P : Program) (ops : Array Oper) (w0 : World) (C : World → Prop) (T : Act → Prop) : List Oper → Act → Prop
  | [], a => T a
  | o :: rest, a => if Region.wanted o (yielded ops a.tmps) then sure P w0 C o a (wpFr P ops w0 C T rest) else wpFr P ops w0 C T rest (a.put o.dst undef)

/-- The last ones. -/
def wpTl (P : Program) (ops : Array Oper) (C : World → Prop) (Q : Exit → Act → World → Prop) : List Oper → Act → World → Prop
  | [], a, w => ∀ x, Ext w x → Q .normal a x
  | o :: rest, a, w => ∀ x, Ext w x → if Region.wanted o (yielded ops a.tmps) then okE P C o a x (wpTl P ops C Q rest) else wpTl P ops C Q rest (a.put o.dst undef) x

theorem wpFr_nil {T : Act → Prop} {a : Act} (h : T a) : wpFr P ops w0 C T [] a := h
theorem wpFr_yes {T : Act → Prop} {a : Act} {o : Oper} {rest : List Oper} (hw : Region.wanted o (yielded ops a.tmps) = true)
    (h : ∀ K : Act → Prop, (∀ a, wpFr P ops w0 C T rest a → K a) → sure P w0 C o a K) : wpFr P ops w0 C T (o :: rest) a := by
  unfold wpFr; rw [if_pos hw]; exact h _ fun _ h => h
theorem wpFr_not {T : Act → Prop} {a : Act} {o : Oper} {rest : List Oper} (hw : Region.wanted o (yielded ops a.tmps) = false)
    (h : ∀ K : Act → Prop, (∀ a, wpFr P ops w0 C T rest a → K a) → K (a.put o.dst undef)) : wpFr P ops w0 C T (o :: rest) a := by
  unfold wpFr; rw [if_neg (by rw [hw]; exact Bool.false_ne_true)]; exact h _ fun _ h => h
theorem wpTl_nil {Q : Exit → Act → World → Prop} {w : World} {a : Act} (h : ∀ x, Ext w x → Q .normal a x) : wpTl P ops C Q [] a w := h
theorem wpTl_step {Q : Exit → Act → World → Prop} {w : World} {a : Act} {o : Oper} {rest : List Oper}
    (h : ∀ (x : World) (K : Act → World → Prop), Ext w x → (∀ a w, wpTl P ops C Q rest a w → K a w) → if Region.wanted o (yielded ops a.tmps) then okE P C o a x K else K (a.put o.dst undef) x) : wpTl P ops C Q (o :: rest) a w :=
  fun x hx => h x _ hx fun _ _ h => h

/-- the class, but for the last operation -/
def Cz (C : World → Prop) (z i : Nat) (w : World) : Prop := i = z ∨ C w

def opE (P : Program) (ops : Array Oper) (C : World → Prop) (z : Nat) (i : Nat) (K : Act → World → Prop) (a : Act) (w : World) : Prop :=
  match ops[i]? with
  | none => K a w
  | some o => if Region.wanted o (yielded ops a.tmps) then okE P (Cz C z i) o a w K else K (a.put o.dst undef) w

theorem okE_mono {o : Oper} {a : Act} {w : World} {K K' : Act → World → Prop} (h : ∀ a w', C w' → K a w' → K' a w') (hh : okE P C o a w K) : okE P C o a w K' := by
  unfold okE at *
  generalize (execOp a.eval o).run P w = r at *
  cases r with
  | ok n w' =>
    cases n <;> simp only [okUpon] at hh ⊢
    case value v => exact ⟨hh.1, h _ _ hh.1 hh.2⟩
    case skip => exact ⟨hh.1, h _ _ hh.1 hh.2⟩
    case enter f args => exact ⟨hh.1, hh.2.mono fun e w'' ⟨v, he, hx, hk⟩ => ⟨v, he, hx, h _ _ hx hk⟩⟩
  | halt x w' => exact hh.elim

theorem wp_of_okE {o : Oper} {a : Act} {w : World} {K : Act → World → Prop} {Q : Exit → Act → World → Prop} (hh : okE P C o a w K) : o.wp P a w K Q := by
  unfold okE at hh
  unfold Oper.wp
  generalize (execOp a.eval o).run P w = r at *
  cases r with
  | ok n w' =>
    cases n <;> simp only [okUpon] at hh <;> simp only [Oper.upon]
    case value v => exact hh.2
    case skip => exact hh.2
    case enter f args =>
      obtain ⟨rfl, hc⟩ := hh
      exact hc.mono fun e w'' ⟨v, he, _, hk⟩ => by subst he; exact hk
  | halt x w' => exact hh.elim

theorem wpOp_of_opE {i : Nat} {a : Act} {w : World} {K K' : Act → World → Prop} {Q : Exit → Act → World → Prop} (h : ∀ a w, K a w → K' a w) (hh : opE P ops C z i K a w) : wpOp P ops Q i K' a w := by
  unfold opE at hh
  unfold wpOp
  split
  · rename_i ho; simp only [ho] at hh; exact h _ _ hh
  · rename_i o ho
    simp only [ho] at hh
    split
    · rename_i hw; simp only [hw, if_true] at hh; exact .inl (Oper.wp_mono h (wp_of_okE hh))
    · rename_i hw; simp only [hw] at hh; exact h _ _ hh

theorem okE_cls {C' : World → Prop} {o : Oper} {a : Act} {w : World} {K : Act → World → Prop} (h : ∀ w, C w → C' w) (hh : okE P C o a w K) : okE P C' o a w K := by
  unfold okE at *
  generalize (execOp a.eval o).run P w = r at *
  cases r with
  | ok n w' =>
    cases n <;> simp only [okUpon] at hh ⊢
    case value v => exact ⟨h _ hh.1, hh.2⟩
    case skip => exact ⟨h _ hh.1, hh.2⟩
    case enter f args => exact ⟨hh.1, hh.2.mono fun e w'' ⟨v, he, hx, hk⟩ => ⟨v, he, h _ hx, hk⟩⟩
  | halt x w' => exact hh.elim

theorem opE_mono {i : Nat} (hiz : i ≠ z) {a : Act} {w : World} {K K' : Act → World → Prop} (hw0 : C w) (h : ∀ a w', C w' → K a w' → K' a w') (hh : opE P ops C z i K a w) : opE P ops C z i K' a w := by
  unfold opE at *
  split
  · rename_i ho; simp only [ho] at hh; exact h _ _ hw0 hh
  · rename_i o ho
    simp only [ho] at hh
    split
    · rename_i hw; simp only [hw, if_true] at hh; exact okE_mono (fun a w' hc => h a w' (hc.resolve_left hiz)) hh
    · rename_i hw; simp only [hw] at hh; exact h _ _ hw0 hh

/-- In every world of the class operation o leaves v. -/
def SureIn (P : Program) (ops : Array Oper) (C : World → Prop) (o : Oper) (v : Value) (a : Act) : Prop :=
  (Region.wanted o (yielded ops a.tmps) = true ∧ ∀ x, C x → sureAt P o a x v) ∨ (Region.wanted o (yielded ops a.tmps) = false ∧ v = undef)

theorem SureIn.of_same {o : Oper} {v : Value} {a a' : Act} (hy : SureIn P ops C o v a) (he : execOp a'.eval o = execOp a.eval o)
    (hw : Region.wanted o (yielded ops a'.tmps) = Region.wanted o (yielded ops a.tmps)) : SureIn P ops C o v a' := by
  unfold SureIn sureAt at *
  rw [he, hw]; exact hy

theorem SureIn.opE (hC : ∀ W W', C W → Ext W W' → C W') {i : Nat} {o : Oper} {v : Value} {a : Act} {w : World} (hCw : C w) (hi : ops[i]? = some o) (hy : SureIn P ops C o v a) {K : Act → World → Prop} (h : ∀ w', Ext w w' → K (a.put o.dst v) w') : opE P ops C z i K a w := by
  unfold Go.Proofs.Ytmobdmljbbckiaa.opE
  simp only [hi]
  rcases hy with ⟨hw, hv⟩ | ⟨hw, rfl⟩
  · simp only [hw, if_true]
    have := hv w hCw
    unfold sureAt at this
    unfold okE
    generalize (execOp a.eval o).run P w = r at *
    cases r with
    | ok n w' =>
      cases n <;> simp only [sureUpon] at this <;> simp only [okUpon]
      case value u => obtain ⟨rfl, rfl⟩ := this; exact ⟨.inr hCw, h _ (Ext.refl _)⟩
      case enter f args => obtain ⟨rfl, hc⟩ := this; exact ⟨rfl, hc.mono fun e w'' ⟨he, hx⟩ => ⟨v, he, .inr (hC _ _ hCw hx), h _ hx⟩⟩
    | halt x w' => exact this.elim
  · simp only [hw, Bool.false_eq_true, if_false]; exact h _ (Ext.refl _)

theorem opE_put {j : Nat} {oi oj : Oper} {v : Value} (hj : ops[j]? = some oj) (hap : oi.apart ops oj = true)
    (hsi : ∀ cs b, oi.op ≠ .select cs b) (hsj : ∀ cs b, oj.op ≠ .select cs b) {K : Act → World → Prop} {a : Act} {w : World}
    (hy : SureIn P ops C oi v a) (h : opE P ops C z j K (a.put oi.dst v) w) : opE P ops C z j (fun a' w' => SureIn P ops C oi v a' ∧ K (a'.put oi.dst v) w') a w := by
  obtain ⟨h1, h2, h3⟩ := Oper.apart_spec hap
  have keep : ∀ u, SureIn P ops C oi v (a.put oj.dst u) := fun u =>
    hy.of_same (execOp_put oi hsi a oj.dst u h3) (wanted_put oi a oj.dst u h3)
  unfold opE at *
  simp only [hj] at *
  rw [wanted_put oj a oi.dst v h1] at h
  split
  · rename_i hw
    simp only [hw, if_true] at h
    unfold okE at *
    rw [execOp_put oj hsj a oi.dst v h1] at h
    generalize (execOp a.eval oj).run P w = r at *
    cases r with
    | ok n w' =>
      cases n <;> simp only [okUpon] at h ⊢
      case value u => exact ⟨h.1, keep u, by rw [← Act.put_comm a v u h2]; exact h.2⟩
      case skip => exact ⟨h.1, keep _, by rw [← Act.put_comm a v undef h2]; exact h.2⟩
      case enter f args => exact ⟨h.1, h.2.mono fun e w'' ⟨u, he, hx, hk⟩ => ⟨u, he, hx, keep u, by rw [← Act.put_comm a v u h2]; exact hk⟩⟩
    | halt x w' => exact h.elim
  · rename_i hw
    simp only [hw] at h
    exact ⟨keep _, by rw [← Act.put_comm a v undef h2]; exact h⟩

/-- Whatever order is picked from here on, in whatever world from here on. -/
def wpE (P : Program) (md : Region.Mode) (ops : Array Oper) (C : World → Prop) (z : Nat) (Q : Exit → Act → World → Prop) : Nat → Array Bool → Act → World → Prop
  | 0, listed, a, w => Region.ready md ops listed = [] ∧ ∀ x, Ext w x → Q .normal a x
  | fuel + 1, listed, a, w => ∀ x, Ext w x → (Region.ready md ops listed = [] → Q .normal a x) ∧
      ∀ i ∈ Region.ready md ops listed, opE P ops C z i (wpE P md ops C z Q fuel (listed.setIfInBounds i true)) a x

theorem wpE_later {Q : Exit → Act → World → Prop} {w w' : World} (hx : Ext w w') : ∀ {fuel : Nat} {listed : Array Bool} {a : Act}, wpE P md ops C z Q fuel listed a w → wpE P md ops C z Q fuel listed a w'
  | 0, _, _, h => ⟨h.1, fun x hx' => h.2 x (hx.trans hx')⟩
  | _ + 1, _, _, h => fun x hx' => h x (hx.trans hx')

theorem wpAny_of_wpE {Q : Exit → Act → World → Prop} : ∀ (fuel : Nat) (listed : Array Bool) (a : Act) (w : World), wpE P md ops C z Q fuel listed a w → wpAny P md ops Q fuel listed a w
  | 0, _, _, w, h => ⟨h.1, h.2 w (Ext.refl w)⟩
  | fuel + 1, _, _, w, h => ⟨fun h0 => (h w (Ext.refl w)).1 h0, fun i hi => wpOp_of_opE (wpAny_of_wpE fuel _) ((h w (Ext.refl w)).2 i hi)⟩

theorem wpE_first (hC : ∀ W W', C W → Ext W W' → C W') {Q : Exit → Act → World → Prop} {i : Nat} (hz : ∀ listed : Array Bool, z ∈ Region.ready md ops listed → i ∈ Region.ready md ops listed → i = z) {oi : Oper} {v : Value} (hi : ops[i]? = some oi) (hsel : ∀ (j : Nat) (o : Oper) cs b, ops[j]? = some o → o.op ≠ .select cs b) :
    ∀ (fuel : Nat) (listed : Array Bool) (a : Act) (w : World), C w →
      (∀ j oj, ops[j]? = some oj → j ≠ i → listed.getD j true = false → (∀ e ∈ oj.after, Region.binds md e = true → e.on ≠ i) → oi.apart ops oj = true) →
      i ∈ Region.ready md ops listed → SureIn P ops C oi v a →
      wpE P md ops C z Q fuel (listed.setIfInBounds i true) (a.put oi.dst v) w → wpE P md ops C z Q (fuel + 1) listed a w := by
  intro fuel
  induction fuel with
  | zero =>
    intro listed a w hCw _ hr hy H x hx
    refine ⟨fun h => (by rw [h] at hr; cases hr), fun j hj => ?_⟩
    by_cases hji : j = i
    · subst hji; exact hy.opE hC (hC _ _ hCw hx) hi fun w' hx' => wpE_later (hx.trans hx') H
    · have := ready_mono hj hji
      rw [H.1] at this
      cases this
  | succ fuel ih =>
    intro listed a w hCw hfree hr hy H x hx
    refine ⟨fun h => (by rw [h] at hr; cases hr), fun j hj => ?_⟩
    by_cases hji : j = i
    · subst hji; exact hy.opE hC (hC _ _ hCw hx) hi fun w' hx' => wpE_later (hx.trans hx') H
    · have h1 := (H x hx).2 j (ready_mono hj hji)
      obtain ⟨hjun, oj, hoj, hall⟩ := mem_ready.1 hj
      have hnot : ∀ e ∈ oj.after, Region.binds md e = true → e.on ≠ i := fun e he hb heq => by
        have h1 := hall e he hb
        have h0 := (mem_ready.1 hr).1
        rw [heq] at h1
        rcases Nat.lt_or_ge i listed.size with h' | h'
        · simp [h'] at h0 h1; rw [h0] at h1; cases h1
        · simp [Array.getElem?_eq_none h'] at h1
      have h2 := opE_put hoj (hfree j oj hoj hji hjun hnot) (fun cs b => hsel i oi cs b hi) (fun cs b => hsel j oj cs b hoj) hy h1
      have hfree' : ∀ k ok, ops[k]? = some ok → k ≠ i → (listed.setIfInBounds j true).getD k true = false →
          (∀ e ∈ ok.after, Region.binds md e = true → e.on ≠ i) → oi.apart ops ok = true := fun k ok hk hki hun hno => by
        refine hfree k ok hk hki ?_ hno
        by_cases hjk : j = k
        · subst hjk; exact hjun
        · rw [getD_set_ne true hjk] at hun; exact hun
      refine opE_mono (fun e => by subst e; exact hji (hz listed hj hr).symm) (hC _ _ hCw hx) (fun a' w' hCw' h3 => ih (listed.setIfInBounds j true) a' w' hCw' hfree' (ready_mono hr (Ne.symm hji)) h3.1 ?_) h2
      rw [Array.setIfInBounds_comm _ _ hji]
      exact h3.2

/-- these stand alone, one behind the other -/
def soloFrom (md : Region.Mode) (ops : Array Oper) : List Nat → Array Bool → Bool
  | [], listed => (Region.ready md ops listed).isEmpty
  | k :: r, listed => Region.ready md ops listed == [k] && soloFrom md ops r (listed.setIfInBounds k true)
/-- these may be taken first, then those stand alone -/
def lexSolo (md : Region.Mode) (ops : Array Oper) (tail : List Nat) : List Nat → Array Bool → Bool
  | [], listed => soloFrom md ops tail listed
  | k :: r, listed => (Region.ready md ops listed).contains k && Region.free md ops listed k && lexSolo md ops tail r (listed.setIfInBounds k true)

theorem wpE_solo {Q : Exit → Act → World → Prop} : ∀ (is : List Nat) (l : List Oper) (listed : Array Bool) (a : Act) (w : World), is.map (ops[·]?) = l.map some →
    soloFrom md ops is listed = true → wpTl P ops C Q l a w → wpE P md ops C z Q is.length listed a w
  | [], [], _, _, _, _, hB, h => ⟨by simpa [soloFrom] using hB, h⟩
  | [], _ :: _, _, _, _, hl, _, _ => by simp at hl
  | _ :: _, [], _, _, _, hl, _, _ => by simp at hl
  | k :: is, o :: l, listed, a, w, hl, hB, h => by
    simp only [List.map_cons, List.cons.injEq] at hl
    obtain ⟨h0, hl⟩ := hl
    simp only [soloFrom, Bool.and_eq_true, beq_iff_eq] at hB
    obtain ⟨hr, hB'⟩ := hB
    intro x hx
    refine ⟨fun h => (by rw [hr] at h; cases h), fun i hi => ?_⟩
    rw [hr] at hi
    simp at hi
    subst hi
    have ih := fun a w => wpE_solo (Q := Q) is l (listed.setIfInBounds i true) a w hl hB'
    have hxx := h x hx
    unfold opE
    simp only [h0]
    split
    · rename_i hw; rw [if_pos hw] at hxx; exact okE_cls (fun _ h => .inr h) (okE_mono (fun a' w' _ hk => ih a' w' hk) hxx)
    · rename_i hw; rw [if_neg hw] at hxx; exact ih _ _ hxx

theorem no_z {ops : Array Oper} (listed : Array Bool) (i : Nat) (h : ops.size ∈ Region.ready md ops listed) (_ : i ∈ Region.ready md ops listed) : i = ops.size := by
  obtain ⟨_, o, ho, _⟩ := mem_ready.1 h
  simp at ho
theorem wpE_lex (hC : ∀ W W', C W → Ext W W' → C W') {Q : Exit → Act → World → Prop} (ti : List Nat) (tl : List Oper) (htl : ti.map (ops[·]?) = tl.map some) (w : World) (hCw : C w) (hs : Region.noSelect ops = true) :
    ∀ (is : List Nat) (l : List Oper) (listed : Array Bool) (a : Act), (∀ k ∈ is, ∀ listed : Array Bool, z ∈ Region.ready md ops listed → k ∈ Region.ready md ops listed → k = z) → is.map (ops[·]?) = l.map some →
    lexSolo md ops ti is listed = true → wpFr P ops w C (fun a' => wpTl P ops C Q tl a' w) l a → wpE P md ops C z Q (is.length + ti.length) listed a w
  | [], [], listed, a, _, _, hB, h => by
    simp only [List.length_nil, Nat.zero_add]
    exact wpE_solo ti tl listed a w htl (by simpa [lexSolo] using hB) h
  | [], _ :: _, _, _, _, hl, _, _ => by simp at hl
  | _ :: _, [], _, _, _, hl, _, _ => by simp at hl
  | k :: is, o :: l, listed, a, hz, hl, hB, h => by
    simp only [List.map_cons, List.cons.injEq] at hl
    obtain ⟨h0, hl⟩ := hl
    simp only [lexSolo, Bool.and_eq_true] at hB
    obtain ⟨⟨hr, hf⟩, hB'⟩ := hB
    rw [show (k :: is).length + ti.length = (is.length + ti.length) + 1 by simp; omega]
    have hst : ∃ v, SureIn P ops C o v a ∧ wpFr P ops w C (fun a' => wpTl P ops C Q tl a' w) l (a.put o.dst v) := by
      unfold wpFr at h
      by_cases hw : Region.wanted o (yielded ops a.tmps) = true
      · rw [if_pos hw] at h
        obtain ⟨v, h1, h2⟩ := h
        exact ⟨v, .inl ⟨hw, fun x hx => h1 ⟨x, .inr hx⟩⟩, h2⟩
      · rw [if_neg hw] at h
        exact ⟨undef, .inr ⟨by simpa using hw, rfl⟩, h⟩
    obtain ⟨v, hy, hK⟩ := hst
    exact wpE_first hC (hz k (List.mem_cons_self ..)) h0 (Region.noSelect_spec hs) _ listed a w hCw (Region.free_spec h0 hf) (by simpa using hr) hy
      (wpE_lex hC ti tl htl w hCw hs is l _ _ (fun j hj => hz j (List.mem_cons_of_mem _ hj)) hl hB' hK)

theorem map_picked {l : List Oper} : ∀ {is : List Nat}, is.all (· < l.length) = true → is.map (l.toArray[·]?) = (is.filterMap fun i => l[i]?).map some
  | [], _ => rfl
  | k :: is, h => by
    simp only [List.all_cons, Bool.and_eq_true, decide_eq_true_eq] at h
    rw [List.map_cons, List.filterMap_cons, map_picked h.2]
    simp [h.1]

/-- ONE WALK SERVES EVERY ORDER: the operations 'front' answer the same in every world of the class, those of 'tail' stand alone. -/
theorem wp_region_class (C : World → Prop) (front tail : List Nat) {id : Nat} {Q : Exit → Act → World → Prop} {a : Act} {w : World} {l : List Oper} (hm : P.follows .mixedOrders = true)
    (hB : (Region.noSelect l.toArray && lexSolo .any l.toArray tail front (Array.replicate l.toArray.size false) && (front.length + tail.length == l.toArray.size) && front.all (· < l.length) && tail.all (· < l.length)) = true)
    (hC : ∀ W W', C W → Ext W W' → C W') (hCw : C w)
    (h : wpFr P l.toArray w C (fun a' => wpTl P l.toArray C Q (tail.filterMap fun i => l[i]?) a' w) (front.filterMap fun i => l[i]?) a) : (Code.region id l.toArray true).wp P Q a w := by
  simp only [Bool.and_eq_true, beq_iff_eq] at hB
  obtain ⟨⟨⟨⟨hs, hB⟩, hsz⟩, h1⟩, h2⟩ := hB
  refine wp_region_any hm (wpAny_of_wpE (C := C) (z := l.toArray.size) _ _ _ _ ?_)
  have hx : Ext w { w with drawn := w.drawn + 1 } := Ext.drew (Ext.refl w)
  refine wpE_later hx ?_
  have := wpE_lex (md := .any) (z := l.toArray.size) (Q := Q) hC tail _ (map_picked h2) w hCw hs front _ (Array.replicate l.toArray.size false) a (fun k _ listed => no_z listed k) (map_picked h1) hB h
  rw [hsz] at this
  exact this

/-- the last operations but one; then one more, behind which the class may be left -/
def wpTz (P : Program) (ops : Array Oper) (C : World → Prop) (Q : Exit → Act → World → Prop) (oz : Oper) : List Oper → Act → World → Prop
  | [], a, w => ∀ x, Ext w x → if Region.wanted oz (yielded ops a.tmps) then okE P (fun _ => True) oz a x (fun a' w' => ∀ y, Ext w' y → Q .normal a' y) else ∀ y, Ext x y → Q .normal (a.put oz.dst undef) y
  | o :: rest, a, w => ∀ x, Ext w x → if Region.wanted o (yielded ops a.tmps) then okE P C o a x (wpTz P ops C Q oz rest) else wpTz P ops C Q oz rest (a.put o.dst undef) x

theorem wpTz_step {Q : Exit → Act → World → Prop} {w : World} {a : Act} {o oz : Oper} {rest : List Oper}
    (h : ∀ (x : World) (K : Act → World → Prop), Ext w x → (∀ a w, wpTz P ops C Q oz rest a w → K a w) → if Region.wanted o (yielded ops a.tmps) then okE P C o a x K else K (a.put o.dst undef) x) : wpTz P ops C Q oz (o :: rest) a w :=
  fun x hx => h x _ hx fun _ _ h => h
theorem wpTz_last {Q : Exit → Act → World → Prop} {w : World} {a : Act} {oz : Oper}
    (h : ∀ (x : World) (K : Act → World → Prop), Ext w x → (∀ a w, (∀ y, Ext w y → Q .normal a y) → K a w) → if Region.wanted oz (yielded ops a.tmps) then okE P (fun _ => True) oz a x K else K (a.put oz.dst undef) x) : wpTz P ops C Q oz [] a w := by
  intro x hx
  have h := h x _ hx fun _ _ h => h
  exact h

/-- these are ahead of it -/
def lastB (md : Region.Mode) (ops : Array Oper) (front : List Nat) (z : Nat) : Bool :=
  match ops[z]? with
  | none => false
  | some o => front.all fun j => j == z || o.after.any fun e => Region.binds md e && e.on == j

theorem lastB_spec {md : Region.Mode} {ops : Array Oper} {front : List Nat} {z : Nat} (h : lastB md ops front z = true) (i : Nat) (hf : i ∈ front) (listed : Array Bool) (hz : z ∈ Region.ready md ops listed) (hi : i ∈ Region.ready md ops listed) : i = z := by
  obtain ⟨_, o, ho, hall⟩ := mem_ready.1 hz
  obtain ⟨hun, oi, hoi, _⟩ := mem_ready.1 hi
  unfold lastB at h
  simp only [ho] at h
  have h1 := List.all_eq_true.1 h i hf
  simp only [Bool.or_eq_true, beq_iff_eq] at h1
  rcases h1 with h1 | h1
  · exact h1
  · rw [Array.any_eq_true'] at h1
    obtain ⟨e, he, hb⟩ := h1
    simp only [Bool.and_eq_true, beq_iff_eq] at hb
    have h2 := hall e he hb.1
    rw [hb.2] at h2
    rcases Nat.lt_or_ge i listed.size with h' | h'
    · simp [h'] at hun h2; rw [hun] at h2; cases h2
    · simp [Array.getElem?_eq_none h'] at h2

theorem wpE_soloz {Q : Exit → Act → World → Prop} {oz : Oper} (hoz : ops[z]? = some oz) : ∀ (is : List Nat) (l : List Oper) (listed : Array Bool) (a : Act) (w : World), is.map (ops[·]?) = l.map some →
    soloFrom md ops (is ++ [z]) listed = true → wpTz P ops C Q oz l a w → wpE P md ops C z Q (is.length + 1) listed a w
  | [], [], listed, a, w, _, hB, h => by
    simp only [List.nil_append, soloFrom, Bool.and_eq_true, beq_iff_eq] at hB
    obtain ⟨hr, hB'⟩ := hB
    intro x hx
    refine ⟨fun h => (by rw [hr] at h; cases h), fun i hi => ?_⟩
    rw [hr] at hi
    simp at hi
    subst hi
    have hxx := h x hx
    unfold opE
    simp only [hoz]
    split
    · rename_i hw; rw [if_pos hw] at hxx
      exact okE_cls (fun _ _ => .inl rfl) (okE_mono (fun a' w' _ hk => ⟨by simpa using hB', hk⟩) hxx)
    · rename_i hw; rw [if_neg hw] at hxx; exact ⟨by simpa using hB', hxx⟩
  | [], _ :: _, _, _, _, hl, _, _ => by simp at hl
  | _ :: _, [], _, _, _, hl, _, _ => by simp at hl
  | k :: is, o :: l, listed, a, w, hl, hB, h => by
    simp only [List.map_cons, List.cons.injEq] at hl
    obtain ⟨h0, hl⟩ := hl
    simp only [List.cons_append, soloFrom, Bool.and_eq_true, beq_iff_eq] at hB
    obtain ⟨hr, hB'⟩ := hB
    intro x hx
    refine ⟨fun h => (by rw [hr] at h; cases h), fun i hi => ?_⟩
    rw [hr] at hi
    simp at hi
    subst hi
    have ih := fun a w => wpE_soloz (Q := Q) hoz is l (listed.setIfInBounds i true) a w hl hB'
    have hxx := h x hx
    unfold opE
    simp only [h0]
    split
    · rename_i hw; rw [if_pos hw] at hxx; exact okE_cls (fun _ h => .inr h) (okE_mono (fun a' w' _ hk => ih a' w' hk) hxx)
    · rename_i hw; rw [if_neg hw] at hxx; exact ih _ _ hxx

theorem wpE_lexz (hC : ∀ W W', C W → Ext W W' → C W') {Q : Exit → Act → World → Prop} {oz : Oper} (hoz : ops[z]? = some oz) (ti : List Nat) (tl : List Oper) (htl : ti.map (ops[·]?) = tl.map some) (w : World) (hCw : C w) (hs : Region.noSelect ops = true) :
    ∀ (is : List Nat) (l : List Oper) (listed : Array Bool) (a : Act), (∀ k ∈ is, ∀ listed : Array Bool, z ∈ Region.ready md ops listed → k ∈ Region.ready md ops listed → k = z) → is.map (ops[·]?) = l.map some →
    lexSolo md ops (ti ++ [z]) is listed = true → wpFr P ops w C (fun a' => wpTz P ops C Q oz tl a' w) l a → wpE P md ops C z Q (is.length + (ti.length + 1)) listed a w
  | [], [], listed, a, _, _, hB, h => by
    simp only [List.length_nil, Nat.zero_add]
    exact wpE_soloz hoz ti tl listed a w htl (by simpa [lexSolo] using hB) h
  | [], _ :: _, _, _, _, hl, _, _ => by simp at hl
  | _ :: _, [], _, _, _, hl, _, _ => by simp at hl
  | k :: is, o :: l, listed, a, hz, hl, hB, h => by
    simp only [List.map_cons, List.cons.injEq] at hl
    obtain ⟨h0, hl⟩ := hl
    simp only [lexSolo, Bool.and_eq_true] at hB
    obtain ⟨⟨hr, hf⟩, hB'⟩ := hB
    rw [show (k :: is).length + (ti.length + 1) = (is.length + (ti.length + 1)) + 1 by simp; omega]
    have hst : ∃ v, SureIn P ops C o v a ∧ wpFr P ops w C (fun a' => wpTz P ops C Q oz tl a' w) l (a.put o.dst v) := by
      unfold wpFr at h
      by_cases hw : Region.wanted o (yielded ops a.tmps) = true
      · rw [if_pos hw] at h
        obtain ⟨v, h1, h2⟩ := h
        exact ⟨v, .inl ⟨hw, fun x hx => h1 ⟨x, .inr hx⟩⟩, h2⟩
      · rw [if_neg hw] at h
        exact ⟨undef, .inr ⟨by simpa using hw, rfl⟩, h⟩
    obtain ⟨v, hy, hK⟩ := hst
    exact wpE_first hC (hz k (List.mem_cons_self ..)) h0 (Region.noSelect_spec hs) _ listed a w hCw (Region.free_spec h0 hf) (by simpa using hr) hy
      (wpE_lexz hC hoz ti tl htl w hCw hs is l _ _ (fun j hj => hz j (List.mem_cons_of_mem _ hj)) hl hB' hK)

/-- ONE WALK: 'front', 'tail', and one that stands behind all others, behind which the class may be left. -/
theorem wp_region_last (C : World → Prop) (front tail : List Nat) (z : Nat) {oz : Oper} {id : Nat} {Q : Exit → Act → World → Prop} {a : Act} {w : World} {l : List Oper} (hm : P.follows .mixedOrders = true)
    (hoz : l.toArray[z]? = some oz)
    (hB : (Region.noSelect l.toArray && lexSolo .any l.toArray (tail ++ [z]) front (Array.replicate l.toArray.size false) && (front.length + (tail.length + 1) == l.toArray.size) && front.all (· < l.length) && tail.all (· < l.length) && lastB .any l.toArray front z) = true)
    (hC : ∀ W W', C W → Ext W W' → C W') (hCw : C w)
    (h : wpFr P l.toArray w C (fun a' => wpTz P l.toArray C Q oz (tail.filterMap fun i => l[i]?) a' w) (front.filterMap fun i => l[i]?) a) : (Code.region id l.toArray true).wp P Q a w := by
  simp only [Bool.and_eq_true, beq_iff_eq] at hB
  obtain ⟨⟨⟨⟨⟨hs, hB⟩, hsz⟩, h1⟩, h2⟩, hl⟩ := hB
  refine wp_region_any hm (wpAny_of_wpE (C := C) (z := z) _ _ _ _ ?_)
  have hx : Ext w { w with drawn := w.drawn + 1 } := Ext.drew (Ext.refl w)
  refine wpE_later hx ?_
  have := wpE_lexz (md := .any) (z := z) (Q := Q) hC hoz tail _ (map_picked h2) w hCw hs front _ (Array.replicate l.toArray.size false) a (lastB_spec hl) (map_picked h1) hB h
  rw [hsz] at this
  exact this

/-- these may be taken first -/
def lexFree (md : Region.Mode) (ops : Array Oper) : List Nat → Array Bool → Bool
  | [], _ => true
  | k :: r, listed => (Region.ready md ops listed).contains k && Region.free md ops listed k && lexFree md ops r (listed.setIfInBounds k true)

theorem wpE_lexT (hC : ∀ W W', C W → Ext W W' → C W') {Q : Exit → Act → World → Prop} (n : Nat) (w : World) (hCw : C w) (hs : Region.noSelect ops = true) :
    ∀ (is : List Nat) (l : List Oper) (listed : Array Bool) (a : Act), (∀ k ∈ is, ∀ listed : Array Bool, z ∈ Region.ready md ops listed → k ∈ Region.ready md ops listed → k = z) → is.map (ops[·]?) = l.map some →
    lexFree md ops is listed = true → wpFr P ops w C (fun a' => wpE P md ops C z Q n (is.foldl (fun b k => b.setIfInBounds k true) listed) a' w) l a → wpE P md ops C z Q (is.length + n) listed a w
  | [], [], listed, a, _, _, hB, h => by
    simp only [List.length_nil, Nat.zero_add]
    exact h
  | [], _ :: _, _, _, _, hl, _, _ => by simp at hl
  | _ :: _, [], _, _, _, hl, _, _ => by simp at hl
  | k :: is, o :: l, listed, a, hz, hl, hB, h => by
    simp only [List.map_cons, List.cons.injEq] at hl
    obtain ⟨h0, hl⟩ := hl
    simp only [lexFree, Bool.and_eq_true] at hB
    obtain ⟨⟨hr, hf⟩, hB'⟩ := hB
    rw [show (k :: is).length + n = (is.length + n) + 1 by simp; omega]
    have hst : ∃ v, SureIn P ops C o v a ∧ wpFr P ops w C (fun a' => wpE P md ops C z Q n (is.foldl (fun b k => b.setIfInBounds k true) (listed.setIfInBounds k true)) a' w) l (a.put o.dst v) := by
      unfold wpFr at h
      by_cases hw : Region.wanted o (yielded ops a.tmps) = true
      · rw [if_pos hw] at h
        obtain ⟨v, h1, h2⟩ := h
        exact ⟨v, .inl ⟨hw, fun x hx => h1 ⟨x, .inr hx⟩⟩, h2⟩
      · rw [if_neg hw] at h
        exact ⟨undef, .inr ⟨by simpa using hw, rfl⟩, h⟩
    obtain ⟨v, hy, hK⟩ := hst
    exact wpE_first hC (hz k (List.mem_cons_self ..)) h0 (Region.noSelect_spec hs) _ listed a w hCw (Region.free_spec h0 hf) (by simpa using hr) hy
      (wpE_lexT hC n w hCw hs is l _ _ (fun j hj => hz j (List.mem_cons_of_mem _ hj)) hl hB' hK)

/-- ONE WALK for the operations 'front'; what is left in whatever order. -/
theorem wp_region_tree (C : World → Prop) (front : List Nat) (n : Nat) {id : Nat} {Q : Exit → Act → World → Prop} {a : Act} {w : World} {l : List Oper} (hm : P.follows .mixedOrders = true)
    (hB : (Region.noSelect l.toArray && lexFree .any l.toArray front (Array.replicate l.toArray.size false) && (front.length + n == l.toArray.size) && front.all (· < l.length)) = true)
    (hC : ∀ W W', C W → Ext W W' → C W') (hCw : C w)
    (h : wpFr P l.toArray w C (fun a' => wpE P .any l.toArray C l.toArray.size Q n (front.foldl (fun b k => b.setIfInBounds k true) (Array.replicate l.toArray.size false)) a' w) (front.filterMap fun i => l[i]?) a) : (Code.region id l.toArray true).wp P Q a w := by
  simp only [Bool.and_eq_true, beq_iff_eq] at hB
  obtain ⟨⟨⟨hs, hB⟩, hsz⟩, h1⟩ := hB
  refine wp_region_any hm (wpAny_of_wpE (C := C) (z := l.toArray.size) _ _ _ _ ?_)
  have hx : Ext w { w with drawn := w.drawn + 1 } := Ext.drew (Ext.refl w)
  refine wpE_later hx ?_
  have := wpE_lexT (md := .any) (z := l.toArray.size) (Q := Q) hC n w hCw hs front _ (Array.replicate l.toArray.size false) a (fun k _ listed => no_z listed k) (map_picked h1) hB h
  rw [hsz] at this
  exact this

theorem wpE_one {Q : Exit → Act → World → Prop} {fuel : Nat} {listed : Array Bool} {a : Act} {w : World} (i : Nat) {o : Oper} (hr : Region.ready md ops listed = [i]) (ho : ops[i]? = some o)
    (h : ∀ (x : World) (K : Act → World → Prop), Ext w x → (∀ a w, wpE P md ops C z Q fuel (listed.setIfInBounds i true) a w → K a w) → if Region.wanted o (yielded ops a.tmps) then okE P C o a x K else K (a.put o.dst undef) x) :
    wpE P md ops C z Q (fuel + 1) listed a w := by
  refine fun x hx => ⟨fun he => (by rw [hr] at he; cases he), fun j hj => ?_⟩
  rw [hr] at hj
  simp at hj
  subst hj
  unfold opE
  simp only [ho]
  have h := h x _ hx fun _ _ h => h
  split
  · rename_i hw; rw [if_pos hw] at h; exact okE_cls (fun _ h => .inr h) h
  · rename_i hw; rw [if_neg hw] at h; exact h
theorem wpE_two {Q : Exit → Act → World → Prop} {fuel : Nat} {listed : Array Bool} {a : Act} {w : World} (i j : Nat) {oi oj : Oper} (hr : Region.ready md ops listed = [i, j]) (hi : ops[i]? = some oi) (hj : ops[j]? = some oj)
    (h1 : ∀ (x : World) (K : Act → World → Prop), Ext w x → (∀ a w, wpE P md ops C z Q fuel (listed.setIfInBounds i true) a w → K a w) → if Region.wanted oi (yielded ops a.tmps) then okE P C oi a x K else K (a.put oi.dst undef) x)
    (h2 : ∀ (x : World) (K : Act → World → Prop), Ext w x → (∀ a w, wpE P md ops C z Q fuel (listed.setIfInBounds j true) a w → K a w) → if Region.wanted oj (yielded ops a.tmps) then okE P C oj a x K else K (a.put oj.dst undef) x) :
    wpE P md ops C z Q (fuel + 1) listed a w := by
  refine fun x hx => ⟨fun he => (by rw [hr] at he; cases he), fun k hk => ?_⟩
  rw [hr] at hk
  simp at hk
  rcases hk with rfl | rfl
  · unfold opE
    simp only [hi]
    have h := h1 x _ hx fun _ _ h => h
    split
    · rename_i hw; rw [if_pos hw] at h; exact okE_cls (fun _ h => .inr h) h
    · rename_i hw; rw [if_neg hw] at h; exact h
  · unfold opE
    simp only [hj]
    have h := h2 x _ hx fun _ _ h => h
    split
    · rename_i hw; rw [if_pos hw] at h; exact okE_cls (fun _ h => .inr h) h
    · rename_i hw; rw [if_neg hw] at h; exact h
theorem wpE_none {Q : Exit → Act → World → Prop} {fuel : Nat} {listed : Array Bool} {a : Act} {w : World} (hr : Region.ready md ops listed = []) (h : ∀ x, Ext w x → Q .normal a x) : wpE P md ops C z Q fuel listed a w := by
  cases fuel with
  | zero => exact ⟨hr, h⟩
  | succ n => exact fun x hx => ⟨fun _ => h x hx, fun i hi => (by rw [hr] at hi; cases hi)⟩

/-- The same, the class being all that extends the world at hand. -/
theorem wp_region_ext (front tail : List Nat) {id : Nat} {Q : Exit → Act → World → Prop} {a : Act} {w : World} {l : List Oper} (hm : P.follows .mixedOrders = true)
    (hB : (Region.noSelect l.toArray && lexSolo .any l.toArray tail front (Array.replicate l.toArray.size false) && (front.length + tail.length == l.toArray.size) && front.all (· < l.length) && tail.all (· < l.length)) = true)
    (h : wpFr P l.toArray w (Ext w) (fun a' => wpTl P l.toArray (Ext w) Q (tail.filterMap fun i => l[i]?) a' w) (front.filterMap fun i => l[i]?) a) : (Code.region id l.toArray true).wp P Q a w :=
  wp_region_class (Ext w) front tail hm hB (fun _ _ h k => h.trans k) (Ext.refl w) h
end

abbrev Later (w : World) := InC w (Ext w)
theorem Later.ext {w : World} (x : Later w) : Ext w x.wd := InC.get (Ext.refl w) x
/-- a block's cells, in every world of the class: one rule for all of them -/
theorem InC.cells {w0 : World} {C : World → Prop} {b : Nat} {c : Array Value} {T : TypeId} {f : Nat × Nat} (hC0 : C w0) (h : ∀ W, C W → W.heap[b]? = some (.cells c T f)) : ∀ (x : InC w0 C) (i : Nat), x.wd.cell? ⟨b, i, none⟩ = c[i]? := by
  intro x i
  have hb := h x.wd (InC.get hC0 x)
  simp only [World.cell?, hb]
  simp
theorem alloc_heap_new (w : World) (o : Obj) : (w.alloc o).heap[w.heap.size]? = some o := heap_alloc_new w o
theorem alloc_heap_old (w : World) (o o' : Obj) (k : Nat) (h : w.heap[k]? = some o') : (w.alloc o).heap[k]? = some o' := by
  rw [Below.heap_alloc _ _ _ (Array.getElem?_eq_some_iff.1 h).1]; exact h
theorem heap_ext {w w' : World} (hx : Ext w w') {k : Nat} {o : Obj} (h : w.heap[k]? = some o) : w'.heap[k]? = some o := by
  rw [hx.block k (Array.getElem?_eq_some_iff.1 h).1]; exact h
theorem Later.cells {w : World} {b : Nat} {c : Array Value} {T : TypeId} {f : Nat × Nat} (h : w.heap[b]? = some (.cells c T f)) : ∀ (x : Later w) (i : Nat), x.wd.cell? ⟨b, i, none⟩ = c[i]? :=
  InC.cells (Ext.refl w) fun _ hW => heap_ext hW h
theorem cells_at {w : World} {b : Nat} {c : Array Value} {T : TypeId} {f : Nat × Nat} (h : w.heap[b]? = some (.cells c T f)) (i : Nat) : w.cell? ⟨b, i, none⟩ = c[i]? := by
  simp [World.cell?, h]
theorem Later.cell {w : World} {a : Addr} {v : Value} (h : w.cell? a = some v) : ∀ x : Later w, x.wd.cell? a = some v := fun x => Ext.cell x.ext h

theorem below_setRow {B : Nat} {w0 w : World} (h : Below B w0 w) {g : Nat} (hg : B ≤ g) (c : Array Value) : Below B w0 (w.setRow g c) :=
  ⟨h.os, h.tape, h.output, by show _ ≤ (w.heap.modify g _).size; simpa using h.size, fun k hk => by rw [setRow_other w g k _ (by omega)]; exact h.block k hk⟩

/-- a whole record stored into a block -/
theorem okE_store_row {P : Program} {C : World → Prop} {o : Oper} {a : Act} {w : World} {K : Act → World → Prop} {T : TypeId} {p v : Operand} (ho : o.op = .store T p v) {b : Nat} {c c' : Array Value} (hp : a.eval p = .pointer (some ⟨b, 0, none⟩)) (hv : a.eval v = .agg c')
    (hb : w.heap[b]? = some (.cells c T)) (hi : (P.info? T).map (·.size) = some c'.size) (hs : c.size = c'.size) (h1 : c'.all (·.oneCell') = true)
    (hC : C (w.setRow b c')) (hK : K (a.put o.dst undef) (w.setRow b c')) : okE P C o a w K := by
  have hr := run_storeVar_row (P := P) w b T T c c' hb hi hs h1
  unfold okE execOp
  simp only [ho, hp, hv, Instr.storeAt, Instr.sureAddr, Sem.run_bind, Sem.run_pure, Result.andThen_ok, hr]
  exact ⟨hC, hK⟩

attribute [go_sem] sure sureAt sureUpon okE okUpon

end Go.Proofs.Ytmobdmljbbckiaa
