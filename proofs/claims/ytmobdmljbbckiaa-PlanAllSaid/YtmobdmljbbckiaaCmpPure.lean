/- Orders in plain mathematics: a comparison that is a law; of texts, terms, triples; lists that rise, each once: union, part, what is in one. No program in sight. -/
import Derived.Test.YtmobdmljbbckiaaTermPure
namespace Go.Proofs.Ytmobdmljbbckiaa

/-- a comparison: -1, 0 (the same), 1 -/
structure LawCmp {α : Type} (c : α → α → Int) : Prop where
  tri : ∀ a b, Tri (c a b)
  eq : ∀ a b, c a b = 0 ↔ a = b
  flip : ∀ a b, c b a = - c a b
  trans : ∀ a b d, c a b < 0 → c b d < 0 → c a d < 0

theorem LawCmp.comap {α β : Type} {c : β → β → Int} (h : LawCmp c) (f : α → β) (hf : ∀ a b, f a = f b → a = b) : LawCmp fun a b => c (f a) (f b) :=
  ⟨fun a b => h.tri _ _, fun a b => ⟨fun e => hf _ _ ((h.eq _ _).1 e), fun e => by subst e; exact (h.eq _ _).2 rfl⟩, fun a b => h.flip _ _, fun a b d => h.trans _ _ _⟩

theorem LawCmp.self {α : Type} {c : α → α → Int} (h : LawCmp c) (a : α) : c a a = 0 := (h.eq a a).2 rfl

theorem LawCmp.le_trans {α : Type} {c : α → α → Int} (h : LawCmp c) {a b d : α} (h1 : c a b ≤ 0) (h2 : c b d ≤ 0) : c a d ≤ 0 := by
  by_cases e1 : c a b = 0
  · obtain rfl := (h.eq _ _).1 e1; exact h2
  · by_cases e2 : c b d = 0
    · obtain rfl := (h.eq _ _).1 e2; exact h1
    · exact Int.le_of_lt (h.trans a b d (by omega) (by omega))

def or2 (x y : Int) : Int := if x ≠ 0 then x else y
theorem LawCmp.lex {α β : Type} {c : α → α → Int} {d : β → β → Int} (h : LawCmp c) (k : LawCmp d) : LawCmp fun p q : α × β => or2 (c p.1 q.1) (d p.2 q.2) where
  tri a b := by
    unfold or2
    split
    · exact h.tri _ _
    · exact k.tri _ _
  eq a b := by
    unfold or2
    constructor
    · intro e
      split at e
      · contradiction
      · rename_i hn
        have h1 : c a.1 b.1 = 0 := by simpa using hn
        exact Prod.ext ((h.eq _ _).1 h1) ((k.eq _ _).1 e)
    · intro e; subst e
      rw [if_neg (by simp [h.self]), k.self]
  flip a b := by
    unfold or2
    rw [h.flip a.1 b.1, k.flip a.2 b.2]
    by_cases e : c a.1 b.1 = 0
    · simp [e]
    · simp [e]
  trans a b e h1 h2 := by
    unfold or2 at *
    by_cases e1 : c a.1 b.1 = 0
    · obtain hab := (h.eq _ _).1 e1
      rw [if_neg (by simp [e1])] at h1
      by_cases e2 : c b.1 e.1 = 0
      · rw [if_neg (by simp [e2])] at h2
        rw [if_neg (by rw [hab]; simp [e2])]
        exact k.trans _ _ _ h1 h2
      · rw [if_pos e2] at h2
        rw [hab, if_pos e2]; exact h2
    · rw [if_pos e1] at h1
      by_cases e2 : c b.1 e.1 = 0
      · have hbe := (h.eq _ _).1 e2
        rw [← hbe, if_pos e1]; exact h1
      · rw [if_pos e2] at h2
        have := h.trans _ _ _ h1 h2
        rw [if_pos (by omega)]; exact this

theorem orI3 (x y z : Int) : orI [x, y, z] = or2 x (or2 y z) := by
  unfold orI or2
  split
  · rfl
  · unfold orI; split
    · rfl
    · unfold orI; split
      · rfl
      · rename_i h; simp [orI] at h ⊢; omega

theorem law_cmpI : LawCmp cmpI where
  tri := tri_cmpI
  eq a b := by
    unfold cmpI
    split
    · omega
    · split <;> omega
  flip a b := by unfold cmpI; split <;> split <;> (try split) <;> omega
  trans a b d h1 h2 := by
    unfold cmpI at *
    split at h1
    · split at h2
      · rw [if_pos (by omega)]; omega
      · split at h2 <;> omega
    · split at h1 <;> omega

theorem law_bytes : LawCmp Lib.compareBytes where
  tri := tri_bytes
  eq := by
    intro a
    induction a with
    | nil => intro b; cases b <;> simp [Lib.compareBytes]
    | cons x a ih =>
      intro b
      cases b with
      | nil => simp [Lib.compareBytes]
      | cons y b =>
        unfold Lib.compareBytes
        split
        · rename_i h; constructor
          · intro e; omega
          · intro e; cases e; simp at h
        · split
          · rename_i h; constructor
            · intro e; omega
            · intro e; cases e; simp at h
          · rename_i h1 h2
            rw [ih b]
            have : x = y := by
              apply UInt8.toNat_inj.1
              simp [UInt8.lt_iff_toNat_lt] at h1 h2
              omega
            subst this; simp
  flip := by
    intro a
    induction a with
    | nil => intro b; cases b <;> simp [Lib.compareBytes]
    | cons x a ih =>
      intro b
      cases b with
      | nil => simp [Lib.compareBytes]
      | cons y b =>
        unfold Lib.compareBytes
        by_cases h1 : x < y
        · have h2 : ¬ y < x := by simp [UInt8.lt_iff_toNat_lt] at *; omega
          simp [h1, h2]
        · by_cases h2 : y < x
          · simp [h1, h2]
          · simp [h1, h2, ih b]
  trans := by
    intro a
    induction a with
    | nil =>
      intro b d h1 h2
      cases d with
      | nil => cases b <;> simp [Lib.compareBytes] at h1 h2
      | cons z d => simp [Lib.compareBytes]
    | cons x a ih =>
      intro b d h1 h2
      cases b with
      | nil => simp [Lib.compareBytes] at h1
      | cons y b =>
        cases d with
        | nil => simp [Lib.compareBytes] at h2
        | cons z d =>
          unfold Lib.compareBytes at h1 h2 ⊢
          simp only [UInt8.lt_iff_toNat_lt] at *
          by_cases a1 : x.toNat < y.toNat
          · by_cases b1 : y.toNat < z.toNat
            · rw [if_pos (by omega)]; omega
            · by_cases b2 : z.toNat < y.toNat
              · rw [if_neg b1, if_pos b2] at h2; omega
              · rw [if_pos (by omega)]; omega
          · by_cases a2 : y.toNat < x.toNat
            · rw [if_neg a1, if_pos a2] at h1; omega
            · rw [if_neg a1, if_neg a2] at h1
              by_cases b1 : y.toNat < z.toNat
              · rw [if_pos (by omega)]; omega
              · by_cases b2 : z.toNat < y.toNat
                · rw [if_neg b1, if_pos b2] at h2; omega
                · rw [if_neg b1, if_neg b2] at h2
                  rw [if_neg (by omega), if_neg (by omega)]
                  exact ih _ _ h1 h2

theorem bytesOf_inj (a b : ByteArray) (h : bytesOf a = bytesOf b) : a = b := by
  apply ByteArray.ext; exact Array.toList_inj.1 h
theorem law_cmpS : LawCmp cmpS := law_bytes.comap bytesOf bytesOf_inj
theorem law_cmpTm : LawCmp cmpTm := by
  have h := (law_cmpI.lex (law_cmpS.lex law_cmpS)).comap (fun t : Tm => (t.kind, t.s, t.lang)) (fun a b e => by cases a; cases b; simp at e; simp [e])
  have e : (fun a b : Tm => or2 (cmpI a.kind b.kind) (or2 (cmpS a.s b.s) (cmpS a.lang b.lang))) = cmpTm := by funext a b; rw [cmpTm, orI3]
  rw [← e]; exact h
theorem law_cmpTr : LawCmp cmpTr := by
  have h := (law_cmpTm.lex (law_cmpTm.lex law_cmpTm)).comap (fun t : Tr => (t.s, t.p, t.o)) (fun a b e => by cases a; cases b; simp at e; simp [e])
  have e : (fun a b : Tr => or2 (cmpTm a.s b.s) (or2 (cmpTm a.p b.p) (cmpTm a.o b.o))) = cmpTr := by funext a b; rw [cmpTr, orI3]
  rw [← e]; exact h

/-- a list that rises, each once -/
def Rises {α : Type} (c : α → α → Int) (l : List α) : Prop := l.Pairwise fun a b => c a b < 0

theorem Rises.nodup {α : Type} {c : α → α → Int} (h : LawCmp c) {l : List α} (hl : Rises c l) : l.Nodup := by
  unfold List.Nodup
  exact List.Pairwise.imp (fun {a b} hab => by intro e; subst e; rw [h.self] at hab; omega) hl

/-- two that rise and have the same are the same -/
theorem Rises.ext {α : Type} {c : α → α → Int} (h : LawCmp c) : ∀ {l m : List α}, Rises c l → Rises c m → (∀ x, x ∈ l ↔ x ∈ m) → l = m
  | [], [], _, _, _ => rfl
  | [], y :: m, _, _, he => absurd ((he y).2 (List.mem_cons_self ..)) (by simp)
  | x :: l, [], _, _, he => absurd ((he x).1 (List.mem_cons_self ..)) (by simp)
  | x :: l, y :: m, hl, hm, he => by
    obtain ⟨hl1, hl2⟩ := List.pairwise_cons.1 hl
    obtain ⟨hm1, hm2⟩ := List.pairwise_cons.1 hm
    have hxy : x = y := by
      rcases List.mem_cons.1 ((he x).1 (List.mem_cons_self ..)) with e | hx
      · exact e
      · rcases List.mem_cons.1 ((he y).2 (List.mem_cons_self ..)) with e | hy
        · exact e.symm
        · have a := hm1 x hx
          have b := hl1 y hy
          have := h.flip x y
          omega
    subst hxy
    congr 1
    refine Rises.ext h hl2 hm2 fun z => ?_
    constructor
    · intro hz
      rcases List.mem_cons.1 ((he z).1 (List.mem_cons_of_mem _ hz)) with e | h'
      · subst e; have := hl1 z hz; rw [h.self] at this; omega
      · exact h'
    · intro hz
      rcases List.mem_cons.1 ((he z).2 (List.mem_cons_of_mem _ hz)) with e | h'
      · subst e; have := hm1 z hz; rw [h.self] at this; omega
      · exact h'

theorem Rises.filter {α : Type} {c : α → α → Int} {l : List α} (h : Rises c l) (p : α → Bool) : Rises c (l.filter p) := List.Pairwise.filter p h

/-- each once, where the same stand together -/
def compact {α : Type} [DecidableEq α] : List α → List α
  | [] => []
  | [x] => [x]
  | x :: y :: l => if x = y then compact (y :: l) else x :: compact (y :: l)

theorem mem_compact {α : Type} [DecidableEq α] : ∀ (l : List α) (x : α), x ∈ compact l ↔ x ∈ l
  | [], x => by simp [compact]
  | [y], x => by simp [compact]
  | y :: z :: l, x => by
    unfold compact
    by_cases e : y = z
    · rw [if_pos e, mem_compact (z :: l) x]; subst e; simp
    · rw [if_neg e, List.mem_cons, mem_compact (z :: l) x, List.mem_cons (a := x) (b := y)]
theorem compact_length_le {α : Type} [DecidableEq α] : ∀ (l : List α), (compact l).length ≤ l.length
  | [] => by simp [compact]
  | [y] => by simp [compact]
  | y :: z :: l => by
    have := compact_length_le (z :: l)
    unfold compact
    split
    · simp at this ⊢; omega
    · simp at this ⊢; omega
theorem compact_rises {α : Type} [DecidableEq α] {c : α → α → Int} (h : LawCmp c) : ∀ {l : List α}, (l.Pairwise fun a b => c a b ≤ 0) → Rises c (compact l)
  | [], _ => List.Pairwise.nil
  | [y], _ => List.pairwise_singleton ..
  | y :: z :: l, hl => by
    obtain ⟨h1, h2⟩ := List.pairwise_cons.1 hl
    have ih := compact_rises h h2
    unfold compact
    by_cases e : y = z
    · rw [if_pos e]; exact ih
    · rw [if_neg e]
      refine List.pairwise_cons.2 ⟨fun x hx => ?_, ih⟩
      have hx' := (mem_compact _ _).1 hx
      have hyz : c y z < 0 := by
        have a := h1 z (List.mem_cons_self ..)
        have : c y z ≠ 0 := fun hh => e ((h.eq _ _).1 hh)
        omega
      rcases List.mem_cons.1 hx' with rfl | hxl
      · exact hyz
      · have a := (List.pairwise_cons.1 h2).1 x hxl
        by_cases ez : c z x = 0
        · obtain rfl := (h.eq _ _).1 ez; exact hyz
        · exact h.trans _ _ _ hyz (by omega)
theorem compact_snoc {α : Type} [DecidableEq α] : ∀ (l : List α) (x y : α), compact (l ++ [x] ++ [y]) = if x = y then compact (l ++ [x]) else compact (l ++ [x]) ++ [y]
  | [], x, y => by
    by_cases e : x = y
    · subst e; simp [compact]
    · simp [compact, e]
  | [z], x, y => by
    by_cases e : x = y
    · subst e; by_cases f : z = x <;> simp [compact, f]
    · by_cases f : z = x <;> simp [compact, e, f]
  | z :: u :: l, x, y => by
    have ih := compact_snoc (u :: l) x y
    simp only [List.cons_append] at ih ⊢
    rw [compact, compact, ih]
    by_cases f : z = u
    · simp [f]
    · simp only [f, if_false]
      split <;> simp

/-- sorted -/
def sortL {α : Type} (c : α → α → Int) (l : List α) : List α := l.mergeSort fun x y => !decide (c y x < 0)
theorem sortL_perm {α : Type} (c : α → α → Int) (l : List α) : (sortL c l).Perm l := List.mergeSort_perm _ _
theorem sortL_le {α : Type} {c : α → α → Int} (h : LawCmp c) (l : List α) : (sortL c l).Pairwise fun a b => c a b ≤ 0 := by
  have hs := List.pairwise_mergeSort (le := fun x y => !decide (c y x < 0)) (fun a b d h1 h2 => by
      simp at h1 h2 ⊢
      have f1 := h.flip a b
      have f2 := h.flip b d
      have f3 := h.flip a d
      have := h.le_trans (a := a) (b := b) (d := d) (by omega) (by omega)
      omega) (fun a b => by
      simp
      have f1 := h.flip a b
      omega) l
  refine List.Pairwise.imp (fun {a b} hab => ?_) hs
  simp at hab
  have f1 := h.flip a b
  omega

/-- union of two lists -/
def unionL {α : Type} [DecidableEq α] (c : α → α → Int) (a b : List α) : List α := compact (sortL c (a ++ b))
section
variable {α : Type} [DecidableEq α] {c : α → α → Int}
theorem unionL_rises (h : LawCmp c) (a b : List α) : Rises c (unionL c a b) := compact_rises h (sortL_le h _)
theorem mem_unionL (a b : List α) (x : α) : x ∈ unionL c a b ↔ x ∈ a ∨ x ∈ b := by
  rw [unionL, mem_compact, (sortL_perm c _).mem_iff, List.mem_append]
theorem unionL_length_le (a b : List α) : (unionL c a b).length ≤ a.length + b.length := by
  refine Nat.le_trans (compact_length_le _) ?_
  rw [(sortL_perm c _).length_eq, List.length_append]; exact Nat.le_refl _
/-- part of a list: what is, or is not, in another one -/
def partL (a b : List α) (is : Bool) : List α := a.filter fun t => decide (t ∈ b) == is
theorem mem_partL (a b : List α) (is : Bool) (x : α) : x ∈ partL a b is ↔ x ∈ a ∧ (decide (x ∈ b) = is) := by
  rw [partL, List.mem_filter]; simp
theorem partL_rises {a : List α} (h : Rises c a) (b : List α) (is : Bool) : Rises c (partL a b is) := h.filter _
theorem partL_length_le (a b : List α) (is : Bool) : (partL a b is).length ≤ a.length := List.length_filter_le _ _
theorem partL_nil_iff (a b : List α) : partL a b true = [] ↔ ∀ x ∈ a, x ∉ b := by
  simp [partL, List.filter_eq_nil_iff]
/-- two that have nothing in common: as many as both -/
theorem unionL_length (h : LawCmp c) {a b : List α} (ha : Rises c a) (hb : Rises c b) (hd : ∀ x ∈ a, x ∉ b) : (unionL c a b).length = a.length + b.length := by
  have hp : (unionL c a b).Perm (a ++ b) := by
    refine (List.perm_ext_iff_of_nodup ((unionL_rises h a b).nodup h) ?_).2 fun x => by rw [mem_unionL, List.mem_append]
    exact List.nodup_append.2 ⟨ha.nodup h, hb.nodup h, fun x hx y hy e => by subst e; exact hd x hx hy⟩
  rw [hp.length_eq, List.length_append]
end

theorem nodup_len {α : Type} [DecidableEq α] : ∀ {b a : List α}, b.Nodup → (∀ x ∈ b, x ∈ a) → b.length ≤ a.length
  | [], _, _, _ => Nat.zero_le _
  | x :: b, a, hn, h => by
    obtain ⟨h1, h2⟩ := List.nodup_cons.1 hn
    have hx := h x (List.mem_cons_self ..)
    have ih := nodup_len (a := a.erase x) h2 fun y hy => by
      have hne : y ≠ x := fun e => h1 (e ▸ hy)
      exact (List.mem_erase_of_ne hne).2 (h y (List.mem_cons_of_mem _ hy))
    rw [List.length_erase_of_mem hx] at ih
    have := List.length_pos_of_mem hx
    simp only [List.length_cons]; omega
/-- a set that is right: it rises -/
theorem firstErr_none {f : Nat → Option Int} : ∀ {n : Nat}, firstErr f n = none → ∀ i, i < n → f i = none
  | 0, _, i, hi => absurd hi (Nat.not_lt_zero _)
  | n + 1, h, i, hi => by
    rw [firstErr] at h
    cases h1 : firstErr f n with
    | some e => rw [h1] at h; cases h
    | none =>
      rw [h1] at h
      by_cases e : i = n
      · subst e; simpa using h
      · exact firstErr_none h1 i (by omega)
theorem rises_of_steps {α : Type} {c : α → α → Int} (h : LawCmp c) : ∀ {l : List α}, (∀ i (hi : i + 1 < l.length), c (l[i]'(by omega)) l[i + 1] < 0) → Rises c l
  | [], _ => List.Pairwise.nil
  | [x], _ => List.pairwise_singleton ..
  | x :: y :: l, hs => by
    have ih := rises_of_steps h (l := y :: l) (fun i hi => by have := hs (i + 1) (by simp at hi ⊢; omega); simpa using this)
    have hxy : c x y < 0 := by have := hs 0 (by simp); simpa using this
    refine List.pairwise_cons.2 ⟨fun z hz => ?_, ih⟩
    rcases List.mem_cons.1 hz with rfl | hzl
    · exact hxy
    · exact h.trans _ _ _ hxy ((List.pairwise_cons.1 ih).1 z hzl)
/-- a set that is right -/
def SetOk (l : List Tr) : Prop := l.length ≤ 200 ∧ (∀ t ∈ l, trErr t = none) ∧ Rises cmpTr l
theorem setErr_none_iff (l : List Tr) : setErr l = none ↔ SetOk l := by
  unfold setErr SetOk
  by_cases h200 : 200 < l.length
  · simp [h200]; omega
  · rw [if_neg h200]
    constructor
    · intro h
      have hf := firstErr_none h
      refine ⟨by omega, fun t ht => ?_, rises_of_steps law_cmpTr fun i hi => ?_⟩
      · obtain ⟨i, hi, rfl⟩ := List.getElem_of_mem ht
        have := hf i hi
        unfold setErrAt at this
        rw [getD_at hi] at this
        cases he : trErr l[i] with
        | none => rfl
        | some e => rw [he] at this; cases this
      · have := hf (i + 1) hi
        unfold setErrAt at this
        rw [getD_at hi, show i + 1 - 1 = i by omega, getD_at (show i < l.length by omega)] at this
        cases he : trErr l[i + 1] with
        | some e => rw [he] at this; cases this
        | none =>
          rw [he] at this
          by_cases h0 : 0 ≤ cmpTr (l[i]'(by omega)) l[i + 1]
          · rw [if_pos ⟨by omega, h0⟩] at this; cases this
          · omega
    · rintro ⟨_, h1, h2⟩
      refine firstErr_miss fun i hi => ?_
      unfold setErrAt
      rw [getD_at hi, h1 _ (List.getElem_mem hi)]
      by_cases h0 : 0 < i
      · rw [getD_at (show i - 1 < l.length by omega)]
        have := List.pairwise_iff_getElem.1 h2 (i - 1) i (by omega) hi (by omega)
        rw [if_neg (by omega)]; rfl
      · rw [if_neg (by omega)]; rfl
theorem SetOk.union {a b : List Tr} (ha : SetOk a) (hb : SetOk b) (hl : (unionL cmpTr a b).length ≤ 200) : SetOk (unionL cmpTr a b) :=
  ⟨hl, fun t ht => ((mem_unionL a b t).1 ht).elim (ha.2.1 t) (hb.2.1 t), unionL_rises law_cmpTr a b⟩
theorem SetOk.part {a : List Tr} (ha : SetOk a) (b : List Tr) (is : Bool) : SetOk (partL a b is) :=
  ⟨Nat.le_trans (partL_length_le _ _ _) ha.1, fun t ht => ha.2.1 t ((mem_partL a b is t).1 ht).1, partL_rises ha.2.2 b is⟩
theorem SetOk.sublist_len {a b : List Tr} (ha : SetOk a) (hb : Rises cmpTr b) (h : ∀ x ∈ b, x ∈ a) : b.length ≤ a.length :=
  nodup_len (hb.nodup law_cmpTr) h
end Go.Proofs.Ytmobdmljbbckiaa
