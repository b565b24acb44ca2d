/- Bytes of terms: what code.put does to the world. -/
import Derived.Test.YtommohepbpdmdaaTermCheck
import Derived.Lib.AppendStr
import Derived.Laws.BytesString
namespace Go.Proofs.Ytommohepbpdmdaa
open Go.RowKit
set_option maxHeartbeats 800000
set_option maxRecDepth 100000

/-- bytes as cells -/
def bcells (l : List UInt8) : List Value := l.map fun b => Value.int .u8 b.toNat
theorem bcells_append (a b : List UInt8) : bcells (a ++ b) = bcells a ++ bcells b := by simp [bcells]
theorem bcells_length (a : List UInt8) : (bcells a).length = a.length := by simp [bcells]
theorem strCells_eq (s : ByteArray) : Lib.strCells s = bcells (bytesOf s) := rfl

/-- a term as bytes -/
def codeTm (t : Tm) : List UInt8 := [UInt8.ofNat (t.kind.toNat + if t.lang.size = 0 then 0 else 4)] ++ bytesOf t.lang ++ ([UInt8.ofNat t.s.size] ++ bytesOf t.s)
theorem bytesOf_len (s : ByteArray) : (bytesOf s).length = s.size := Array.length_toList
theorem codeTm_length (t : Tm) : (codeTm t).length = 2 + t.lang.size + t.s.size := by
  simp only [codeTm, List.length_append, List.length_cons, List.length_nil, bytesOf_len]; omega

/-- what lies below B lies, and so does each block of another element type -/
structure Grows (B : Nat) (T : TypeId) (w w' : World) : Prop where
  below : Below B w w'
  keeps : ∀ (g : Nat) (c : Array Value) (e : TypeId) (f : Nat × Nat), w.heap[g]? = some (.cells c e f) → e ≠ T → w'.heap[g]? = some (.cells c e f)

section
variable {B : Nat} {T : TypeId}
theorem Grows.refl (w : World) : Grows B T w w := ⟨Below.refl _ _, fun _ _ _ _ h _ => h⟩
theorem Grows.trans {a b c : World} (h : Grows B T a b) (k : Grows B T b c) : Grows B T a c := ⟨h.below.trans k.below, fun g c e f hh hne => k.keeps g c e f (h.keeps g c e f hh hne) hne⟩
theorem Grows.of_ext {a b : World} (h : Ext a b) (hB : B ≤ a.heap.size) : Grows B T a b := ⟨Below.mono h hB, fun _ _ _ _ hh _ => heap_ext h hh⟩
theorem Grows.ext {a b c : World} (h : Grows B T a b) (k : Ext b c) (hB : B ≤ a.heap.size) : Grows B T a c := h.trans (Grows.of_ext k (Nat.le_trans hB h.below.size))
theorem Grows.own {w w' : World} {size : Nat} {v : Value} {n : Nat} {xs : List Value} (h : w.ownsRow B T size v n xs) (hg : w.grownBy w' v.ownBlock) (hB : B ≤ w.heap.size) : Grows B T w w' :=
  ⟨Below.grown (Below.refl _ _) hg hB fun k hk => (h.lt k hk).1, fun _ _ _ _ hh hne => keep_other h (Ext.refl w) hg hh hne⟩
theorem Grows.cells {w0 : World} {b : Nat} {c : Array Value} {U : TypeId} {f : Nat × Nat} (h : w0.heap[b]? = some (.cells c U f)) (hne : U ≠ T) : ∀ (x : InC w0 (Grows B T w0)) (i : Nat), x.wd.cell? ⟨b, i, none⟩ = c[i]? :=
  InC.cells (Grows.refl w0) fun _ hW => hW.keeps _ _ _ _ h hne
end

section
variable {P : Program} {ops : Array Oper} {C : World → Prop} {Q : Exit → Act → World → Prop} {rest : List Oper} {o : Oper} {a : Act} {w : World}
/-- an append among the last operations -/
theorem wpTl_append_own (hw : Region.wanted o (yielded ops a.tmps) = true) {s x : Operand} {t : TypeId} (ho : o.op = .call { callee := .builtin .append, args := #[s, x], argTypes := #[t, t] })
    {base : Nat} {e : TypeId} {i : TypeInfo} {z : Value} {size bytes : Nat} (ht : P.underlying t = some (.slice e)) (hi : P.info? e = some i) (hz : i.zero = some z)
    (hsize : i.size = size) (hby : i.bytes = bytes) (hzs : z.cells.size = size) (hsz : 0 < size)
    {v : Value} {n : Nat} {xs : List Value} (hs : a.eval s = v) (hown : w.ownsRow base e size v n xs)
    {ad : Addr} {m c : Nat} {news : List Value} (hx : a.eval x = .slice (some ad) m c) (hl : news.length = m * size) (hnews : ∀ j u, news[j]? = some u → w.cell? (ad.add j) = some u) (h1 : ∀ u ∈ news, u.oneCell' = true)
    (h63 : n + m ≤ maxLen) (hbytes : (n + m) * bytes ≤ 140737488355328) (hbase : base ≤ w.heap.size)
    (h : ∀ W v' w', Ext w W → w'.ownsRow base e size v' (n + m) (xs ++ news) → W.grownBy w' v.ownBlock → C w' ∧ wpTl P ops C Q rest (a.put o.dst v') w') : wpTl P ops C Q (o :: rest) a w := by
  refine wpTl_step fun W K hW hK => ?_
  rw [if_pos hw]
  obtain ⟨v', w', hr, h2, h3, _⟩ := run_append_own (P := P) W base t o.type e i z size bytes ht hi hz hsize hby hzs hsz v n xs (own_ext hown hW) ad m c news hl (fun j u hj => hW.cell (hnews j u hj)) h1 h63 hbytes (Nat.le_trans hbase hW.size)
  unfold okE execOp
  simp only [ho, resolve, invoke, builtin, Sem.run_bind, Sem.run_pure, Result.andThen_ok, List.map_toArray, List.map_cons, List.map_nil, hs, hx, hr]
  exact ⟨(h W v' w' hW h2 h3).1, hK _ _ (h W v' w' hW h2 h3).2⟩

theorem wpTl_append_string (hw : Region.wanted o (yielded ops a.tmps) = true) {s x : Operand} {t u : TypeId} (ho : o.op = .call { callee := .builtin .append, args := #[s, x], argTypes := #[t, u] })
    {base : Nat} {e : TypeId} {i : TypeInfo} (ht : P.underlying t = some (.slice e)) (hu : P.underlying u = some .string) (hi : P.info? e = some i) (hz : i.zero = some (.int .u8 0))
    (hsize : i.size = 1) (hby : i.bytes = 1)
    {v : Value} {n : Nat} {xs : List Value} (hs : a.eval s = v) (hown : w.ownsRow base e 1 v n xs)
    {str : ByteArray} (hx : a.eval x = .string str)
    (h63 : n + str.size ≤ maxLen) (hbytes : n + str.size ≤ 140737488355328) (hbase : base ≤ w.heap.size)
    (h : ∀ W v' w', Ext w W → w'.ownsRow base e 1 v' (n + str.size) (xs ++ bcells (bytesOf str)) → W.grownBy w' v.ownBlock → C w' ∧ wpTl P ops C Q rest (a.put o.dst v') w') : wpTl P ops C Q (o :: rest) a w := by
  refine wpTl_step fun W K hW hK => ?_
  rw [if_pos hw]
  obtain ⟨v', w', hr, h2, h3, _⟩ := Lib.run_append_own_string (P := P) W base t u o.type e i ht hu hi hz hsize hby v n xs (own_ext hown hW) str h63 hbytes (Nat.le_trans hbase hW.size)
  unfold okE execOp
  simp only [ho, resolve, invoke, builtin, Sem.run_bind, Sem.run_pure, Result.andThen_ok, List.map_toArray, List.map_cons, List.map_nil, hs, hx, hr]
  exact ⟨(h W v' w' hW h2 h3).1, hK _ _ (h W v' w' hW h2 h3).2⟩
end


theorem put_any (base : Nat) (v : Value) (l : List UInt8) (t : Tm) (w : World) (ho : w.ownsRow base 5 1 v l.length (bcells l)) (hb : base ≤ w.heap.size) (hl : l.length ≤ 1000000)
    (hk1 : 1 ≤ t.kind) (hk3 : t.kind ≤ 3) (hs : t.s.size ≤ 24) (hg : t.lang.size ≤ 2) :
    Calls Try.prog 86 #[v, vTm t] w fun e w' => ∃ v', e = .returned v' ∧ w'.ownsRow base 5 1 v' (l ++ codeTm t).length (bcells (l ++ codeTm t)) ∧ Grows base 5 w w' := by
  obtain ⟨k, s, g⟩ := t
  dsimp only at *
  have hcode : bcells (l ++ codeTm ⟨k, s, g⟩) = bcells l ++ [Value.int .u8 (UInt8.ofNat (k.toNat + if g.size = 0 then 0 else 4)).toNat] ++ bcells (bytesOf g) ++ ([Value.int .u8 (UInt8.ofNat s.size).toNat] ++ bcells (bytesOf s)) := by
    simp [codeTm, bcells]
  have hlen : (l ++ codeTm ⟨k, s, g⟩).length = l.length + 1 + g.size + 1 + s.size := by rw [List.length_append, codeTm_length]; dsimp only; omega
  generalize l ++ codeTm ⟨k, s, g⟩ = L at hcode hlen ⊢
  have HL := Lib.hid (And.intro hcode hlen)
  clear hcode hlen
  obtain ⟨i0, hi, hz0, hz1, hz2⟩ : ∃ i, Try.prog.info? 5 = some i ∧ i.zero = some (.int .u8 0) ∧ i.size = 1 ∧ i.bytes = 1 := ⟨_, rfl, rfl, rfl, rfl⟩
  cases hE : g.toList.isEmpty
  ·
    go_enter Try.func86, Try.ntmps86
    go_upto_region 4 with fail
    have hh := alloc_heap_new w (.cells #[.int .i64 k, .string s, .string g] 37)
    have hx := (Ext.refl w).alloc (.cells #[.int .i64 k, .string s, .string g] 37)
    generalize hwb : World.alloc w _ = wb at hh hx ⊢
    clear hwb
    have ho0 := own_ext ho hx
    have hbw : base ≤ wb.heap.size := Nat.le_trans hb hx.size
    have A := Grows.cells (B := base) (T := 5) hh (by decide)
    refine wp_region_class (Grows base 5 wb) [0, 1, 2, 5, 6] [3, 4, 7, 8] (by kernel_rfl) (by kernel_rfl) (fun _ _ h k => h.ext k hbw) (Grows.refl wb) ?_
    simp only [List.filterMap_cons, List.filterMap_nil, List.getElem?_cons_succ, List.getElem?_cons_zero]
    repeat (first | ((with_reducible refine wpFr_yes ?hw ?_); (case hw => rfl); intro K hK; go_simp; (first | (refine hK _ ?_; clear hK K) | (apply Exists.intro; refine ⟨fun x => ?_, hK _ ?_⟩; (fail); clear hK K))) | ((with_reducible refine wpFr_not ?hw ?_); (case hw => rfl); intro K hK; go_simp; (refine hK _ ?_; clear hK K)))
    refine wpFr_nil ?_
    refine wpTl_step (fun W K hW hK => ?_)
    go_simp
    refine ⟨(Grows.refl wb).ext (hW.alloc _) hbw, hK _ _ ?_⟩
    clear hK K
    have hG0 : Grows base 5 wb (W.alloc (.cells #[.int .u8 (IntKind.u8.wrap (k + 4))] 5)) := (Grows.refl wb).ext (hW.alloc _) hbw
    have hown1 : (W.alloc (.cells #[.int .u8 (IntKind.u8.wrap (k + 4))] 5)).ownsRow base 5 1 v l.length (bcells l) := own_ext ho0 (hW.alloc _)
    refine wpTl_append_own rfl rfl Try.underlying95 hi hz0 hz1 hz2 rfl (by decide) rfl hown1 (news := [.int .u8 (IntKind.u8.wrap (k + 4))]) rfl rfl (fun j u hj => cells_new W #[.int .u8 (IntKind.u8.wrap (k + 4))] 5 W.heap.size rfl j u hj) (fun u hu => by simp at hu; subst hu; rfl) (by unfold maxLen; omega) (by omega) (Nat.le_trans hbw hG0.below.size) ?_
    intro W1 v1 w1 hW1 hv1 hg1
    have hG1 : Grows base 5 wb w1 := (hG0.ext hW1 hbw).trans (Grows.own (own_ext hown1 hW1) hg1 (Nat.le_trans hbw (Nat.le_trans hG0.below.size hW1.size)))
    refine ⟨hG1, ?_⟩
    clear hg1 hG0 hown1
    refine wpTl_append_string rfl rfl Try.underlying95 Try.underlying9 hi hz0 hz1 hz2 rfl hv1 rfl (by unfold maxLen; omega) (by omega) (Nat.le_trans hbw hG1.below.size) ?_
    intro W2 v2 w2 hW2 hv2 hg2
    have hG2 : Grows base 5 wb w2 := (hG1.ext hW2 hbw).trans (Grows.own (own_ext hv1 hW2) hg2 (Nat.le_trans hbw (Nat.le_trans hG1.below.size hW2.size)))
    refine ⟨hG2, ?_⟩
    clear hv1 hG1 hg2
    refine wpTl_step (fun W3 K hW3 hK => ?_)
    go_simp
    refine ⟨hG2.ext hW3 hbw, hK _ _ ?_⟩
    clear hK K
    refine wpTl_nil fun x hxx => ?_
    have ho1 := own_ext hv2 (hW3.trans hxx)
    have hG := hG2.ext (hW3.trans hxx) hbw
    clear hv2 hG2 hW1 hW2 hW3 hxx hW
    have hGw := (Grows.of_ext (T := 5) hx hb).trans hG
    have hh' := hG.keeps _ _ _ _ hh (by decide)
    clear A hh ho0 hbw hG hx W1 w1 W2 w2 W3 wb
    obtain ⟨wb, rfl⟩ : ∃ wb, wb = x := ⟨_, rfl⟩
    have ho0 := ho1
    clear ho1
    obtain ⟨vb, rfl⟩ : ∃ vb, vb = v2 := ⟨_, rfl⟩
    go_upto_region 5 with fail
    have hbw : base ≤ wb.heap.size := Nat.le_trans hb hGw.below.size
    have A := Grows.cells (B := base) (T := 5) hh' (by decide)
    clear hh'
    refine wp_region_class (Grows base 5 wb) [0, 1, 2, 3, 4, 7, 8] [5, 6, 9, 10] (by kernel_rfl) (by kernel_rfl) (fun _ _ h k => h.ext k hbw) (Grows.refl wb) ?_
    simp only [List.filterMap_cons, List.filterMap_nil, List.getElem?_cons_succ, List.getElem?_cons_zero]
    repeat (first | ((with_reducible refine wpFr_yes ?hw ?_); (case hw => rfl); intro K hK; go_simp; (first | (refine hK _ ?_; clear hK K) | (apply Exists.intro; refine ⟨fun x => ?_, hK _ ?_⟩; (fail); clear hK K))) | ((with_reducible refine wpFr_not ?hw ?_); (case hw => rfl); intro K hK; go_simp; (refine hK _ ?_; clear hK K)))
    refine wpFr_nil ?_
    refine wpTl_step (fun W K hW hK => ?_)
    go_simp
    refine ⟨(Grows.refl wb).ext (hW.alloc _) hbw, hK _ _ ?_⟩
    clear hK K
    have hG0 : Grows base 5 wb (W.alloc (.cells #[.int .u8 (IntKind.u8.wrap (s.size : Int))] 5)) := (Grows.refl wb).ext (hW.alloc _) hbw
    have hown1 : (W.alloc (.cells #[.int .u8 (IntKind.u8.wrap (s.size : Int))] 5)).ownsRow base 5 1 vb (l.length + 1 + g.size) (bcells l ++ [.int .u8 (IntKind.u8.wrap (k + 4))] ++ bcells (bytesOf g)) := own_ext ho0 (hW.alloc _)
    refine wpTl_append_own rfl rfl Try.underlying95 hi hz0 hz1 hz2 rfl (by decide) rfl hown1 (news := [.int .u8 (IntKind.u8.wrap (s.size : Int))]) rfl rfl (fun j u hj => cells_new W #[.int .u8 (IntKind.u8.wrap (s.size : Int))] 5 W.heap.size rfl j u hj) (fun u hu => by simp at hu; subst hu; rfl) (by unfold maxLen; omega) (by omega) (Nat.le_trans hbw hG0.below.size) ?_
    intro W1 v1 w1 hW1 hv1 hg1
    have hG1 : Grows base 5 wb w1 := (hG0.ext hW1 hbw).trans (Grows.own (own_ext hown1 hW1) hg1 (Nat.le_trans hbw (Nat.le_trans hG0.below.size hW1.size)))
    refine ⟨hG1, ?_⟩
    clear hg1 hG0 hown1
    refine wpTl_append_string rfl rfl Try.underlying95 Try.underlying9 hi hz0 hz1 hz2 rfl hv1 rfl (by unfold maxLen; omega) (by omega) (Nat.le_trans hbw hG1.below.size) ?_
    intro W2 v2 w2 hW2 hv2 hg2
    have hG2 : Grows base 5 wb w2 := (hG1.ext hW2 hbw).trans (Grows.own (own_ext hv1 hW2) hg2 (Nat.le_trans hbw (Nat.le_trans hG1.below.size hW2.size)))
    refine ⟨hG2, ?_⟩
    clear hv1 hG1 hg2
    refine wpTl_step (fun W3 K hW3 hK => ?_)
    go_simp
    refine ⟨hG2.ext hW3 hbw, hK _ _ ?_⟩
    clear hK K
    refine wpTl_nil fun x hxx => ?_
    have ho1 := own_ext hv2 (hW3.trans hxx)
    have hG := hG2.ext (hW3.trans hxx) hbw
    clear hv2 hG2 hW1 hW2 hW3 hxx hW
    have hGx := hGw.trans hG
    clear hG A
    go_wp2
    go_ret
    refine ⟨_, rfl, ?_, hGx⟩
    rw [HL.out.2, HL.out.1]
    have e1 : g.size ≠ 0 := fun h => by rw [isEmpty_toList] at hE; simp [h] at hE
    have e2 : ((UInt8.ofNat (k.toNat + if g.size = 0 then 0 else 4)).toNat : Int) = IntKind.u8.wrap (k + 4) := by rw [if_neg e1, IntWalk.u8_in _ (by omega)]; simp; omega
    have e3 : ((UInt8.ofNat s.size).toNat : Int) = IntKind.u8.wrap (s.size : Int) := by rw [IntWalk.u8_in _ (by omega)]; simp; omega
    rw [e2, e3, ← List.append_assoc]
    exact ho1
  ·
    go_enter Try.func86, Try.ntmps86
    go_upto_region 4 with fail
    have hh := alloc_heap_new w (.cells #[.int .i64 k, .string s, .string g] 37)
    have hx := (Ext.refl w).alloc (.cells #[.int .i64 k, .string s, .string g] 37)
    generalize hwb : World.alloc w _ = wb at hh hx ⊢
    clear hwb
    have ho0 := own_ext ho hx
    have hbw : base ≤ wb.heap.size := Nat.le_trans hb hx.size
    have A := Grows.cells (B := base) (T := 5) hh (by decide)
    refine wp_region_class (Grows base 5 wb) [0, 1, 2, 5, 6] [3, 4, 7, 8] (by kernel_rfl) (by kernel_rfl) (fun _ _ h k => h.ext k hbw) (Grows.refl wb) ?_
    simp only [List.filterMap_cons, List.filterMap_nil, List.getElem?_cons_succ, List.getElem?_cons_zero]
    repeat (first | ((with_reducible refine wpFr_yes ?hw ?_); (case hw => rfl); intro K hK; go_simp; (first | (refine hK _ ?_; clear hK K) | (apply Exists.intro; refine ⟨fun x => ?_, hK _ ?_⟩; (fail); clear hK K))) | ((with_reducible refine wpFr_not ?hw ?_); (case hw => rfl); intro K hK; go_simp; (refine hK _ ?_; clear hK K)))
    refine wpFr_nil ?_
    refine wpTl_step (fun W K hW hK => ?_)
    go_simp
    refine ⟨(Grows.refl wb).ext (hW.alloc _) hbw, hK _ _ ?_⟩
    clear hK K
    have hG0 : Grows base 5 wb (W.alloc (.cells #[.int .u8 (IntKind.u8.wrap k)] 5)) := (Grows.refl wb).ext (hW.alloc _) hbw
    have hown1 : (W.alloc (.cells #[.int .u8 (IntKind.u8.wrap k)] 5)).ownsRow base 5 1 v l.length (bcells l) := own_ext ho0 (hW.alloc _)
    refine wpTl_append_own rfl rfl Try.underlying95 hi hz0 hz1 hz2 rfl (by decide) rfl hown1 (news := [.int .u8 (IntKind.u8.wrap k)]) rfl rfl (fun j u hj => cells_new W #[.int .u8 (IntKind.u8.wrap k)] 5 W.heap.size rfl j u hj) (fun u hu => by simp at hu; subst hu; rfl) (by unfold maxLen; omega) (by omega) (Nat.le_trans hbw hG0.below.size) ?_
    intro W1 v1 w1 hW1 hv1 hg1
    have hG1 : Grows base 5 wb w1 := (hG0.ext hW1 hbw).trans (Grows.own (own_ext hown1 hW1) hg1 (Nat.le_trans hbw (Nat.le_trans hG0.below.size hW1.size)))
    refine ⟨hG1, ?_⟩
    clear hg1 hG0 hown1
    refine wpTl_append_string rfl rfl Try.underlying95 Try.underlying9 hi hz0 hz1 hz2 rfl hv1 rfl (by unfold maxLen; omega) (by omega) (Nat.le_trans hbw hG1.below.size) ?_
    intro W2 v2 w2 hW2 hv2 hg2
    have hG2 : Grows base 5 wb w2 := (hG1.ext hW2 hbw).trans (Grows.own (own_ext hv1 hW2) hg2 (Nat.le_trans hbw (Nat.le_trans hG1.below.size hW2.size)))
    refine ⟨hG2, ?_⟩
    clear hv1 hG1 hg2
    refine wpTl_step (fun W3 K hW3 hK => ?_)
    go_simp
    refine ⟨hG2.ext hW3 hbw, hK _ _ ?_⟩
    clear hK K
    refine wpTl_nil fun x hxx => ?_
    have ho1 := own_ext hv2 (hW3.trans hxx)
    have hG := hG2.ext (hW3.trans hxx) hbw
    clear hv2 hG2 hW1 hW2 hW3 hxx hW
    have hGw := (Grows.of_ext (T := 5) hx hb).trans hG
    have hh' := hG.keeps _ _ _ _ hh (by decide)
    clear A hh ho0 hbw hG hx W1 w1 W2 w2 W3 wb
    obtain ⟨wb, rfl⟩ : ∃ wb, wb = x := ⟨_, rfl⟩
    have ho0 := ho1
    clear ho1
    obtain ⟨vb, rfl⟩ : ∃ vb, vb = v2 := ⟨_, rfl⟩
    go_upto_region 5 with fail
    have hbw : base ≤ wb.heap.size := Nat.le_trans hb hGw.below.size
    have A := Grows.cells (B := base) (T := 5) hh' (by decide)
    clear hh'
    refine wp_region_class (Grows base 5 wb) [0, 1, 2, 3, 4, 7, 8] [5, 6, 9, 10] (by kernel_rfl) (by kernel_rfl) (fun _ _ h k => h.ext k hbw) (Grows.refl wb) ?_
    simp only [List.filterMap_cons, List.filterMap_nil, List.getElem?_cons_succ, List.getElem?_cons_zero]
    repeat (first | ((with_reducible refine wpFr_yes ?hw ?_); (case hw => rfl); intro K hK; go_simp; (first | (refine hK _ ?_; clear hK K) | (apply Exists.intro; refine ⟨fun x => ?_, hK _ ?_⟩; (fail); clear hK K))) | ((with_reducible refine wpFr_not ?hw ?_); (case hw => rfl); intro K hK; go_simp; (refine hK _ ?_; clear hK K)))
    refine wpFr_nil ?_
    refine wpTl_step (fun W K hW hK => ?_)
    go_simp
    refine ⟨(Grows.refl wb).ext (hW.alloc _) hbw, hK _ _ ?_⟩
    clear hK K
    have hG0 : Grows base 5 wb (W.alloc (.cells #[.int .u8 (IntKind.u8.wrap (s.size : Int))] 5)) := (Grows.refl wb).ext (hW.alloc _) hbw
    have hown1 : (W.alloc (.cells #[.int .u8 (IntKind.u8.wrap (s.size : Int))] 5)).ownsRow base 5 1 vb (l.length + 1 + g.size) (bcells l ++ [.int .u8 (IntKind.u8.wrap k)] ++ bcells (bytesOf g)) := own_ext ho0 (hW.alloc _)
    refine wpTl_append_own rfl rfl Try.underlying95 hi hz0 hz1 hz2 rfl (by decide) rfl hown1 (news := [.int .u8 (IntKind.u8.wrap (s.size : Int))]) rfl rfl (fun j u hj => cells_new W #[.int .u8 (IntKind.u8.wrap (s.size : Int))] 5 W.heap.size rfl j u hj) (fun u hu => by simp at hu; subst hu; rfl) (by unfold maxLen; omega) (by omega) (Nat.le_trans hbw hG0.below.size) ?_
    intro W1 v1 w1 hW1 hv1 hg1
    have hG1 : Grows base 5 wb w1 := (hG0.ext hW1 hbw).trans (Grows.own (own_ext hown1 hW1) hg1 (Nat.le_trans hbw (Nat.le_trans hG0.below.size hW1.size)))
    refine ⟨hG1, ?_⟩
    clear hg1 hG0 hown1
    refine wpTl_append_string rfl rfl Try.underlying95 Try.underlying9 hi hz0 hz1 hz2 rfl hv1 rfl (by unfold maxLen; omega) (by omega) (Nat.le_trans hbw hG1.below.size) ?_
    intro W2 v2 w2 hW2 hv2 hg2
    have hG2 : Grows base 5 wb w2 := (hG1.ext hW2 hbw).trans (Grows.own (own_ext hv1 hW2) hg2 (Nat.le_trans hbw (Nat.le_trans hG1.below.size hW2.size)))
    refine ⟨hG2, ?_⟩
    clear hv1 hG1 hg2
    refine wpTl_step (fun W3 K hW3 hK => ?_)
    go_simp
    refine ⟨hG2.ext hW3 hbw, hK _ _ ?_⟩
    clear hK K
    refine wpTl_nil fun x hxx => ?_
    have ho1 := own_ext hv2 (hW3.trans hxx)
    have hG := hG2.ext (hW3.trans hxx) hbw
    clear hv2 hG2 hW1 hW2 hW3 hxx hW
    have hGx := hGw.trans hG
    clear hG A
    go_wp2
    go_ret
    refine ⟨_, rfl, ?_, hGx⟩
    rw [HL.out.2, HL.out.1]
    have e1 : g.size = 0 := by rw [isEmpty_toList] at hE; simpa using hE
    have e2 : ((UInt8.ofNat (k.toNat + if g.size = 0 then 0 else 4)).toNat : Int) = IntKind.u8.wrap k := by rw [if_pos e1, IntWalk.u8_in _ (by omega)]; simp; omega
    have e3 : ((UInt8.ofNat s.size).toNat : Int) = IntKind.u8.wrap (s.size : Int) := by rw [IntWalk.u8_in _ (by omega)]; simp; omega
    rw [e2, e3, ← List.append_assoc]
    exact ho1
end Go.Proofs.Ytommohepbpdmdaa
