/- Appends in a region whose order is open; what lies below a number, and blocks of other element types, stay. -/
import Derived.Test.YtmobdmljbbckiaaRegion
import Derived.Test.YtmobdmljbbckiaaTermPure
import Derived.Lib.AppendStr
namespace Go.Proofs.Ytmobdmljbbckiaa
open Go.RowKit
set_option maxHeartbeats 800000
set_option maxRecDepth 100000

/-- bytes as cells -/
def bcells (l : List UInt8) : List Value := l.map fun b => Value.int .u8 b.toNat
theorem bcells_append (a b : List UInt8) : bcells (a ++ b) = bcells a ++ bcells b := by simp [bcells]
theorem bcells_length (a : List UInt8) : (bcells a).length = a.length := by simp [bcells]
theorem strCells_eq (s : ByteArray) : Lib.strCells s = bcells (bytesOf s) := rfl

/-- what lies below B lies, and so does each block of another element type -/
structure Grows (B : Nat) (T : TypeId) (w w' : World) : Prop where
  below : Below B w w'
  keeps : ∀ (g : Nat) (c : Array Value) (e : TypeId) (f : Nat × Nat), w.heap[g]? = some (.cells c e f) → e ≠ T → w'.heap[g]? = some (.cells c e f)

section
variable {B : Nat} {T : TypeId}
theorem Grows.refl (w : World) : Grows B T w w := ⟨Below.refl _ _, fun _ _ _ _ h _ => h⟩
theorem Grows.trans {a b c : World} (h : Grows B T a b) (k : Grows B T b c) : Grows B T a c := ⟨h.below.trans k.below, fun g c e f hh hne => k.keeps g c e f (h.keeps g c e f hh hne) hne⟩
theorem Grows.of_ext {a b : World} (h : Ext a b) (hB : B ≤ a.heap.size) : Grows B T a b := ⟨Below.mono h hB, fun _ _ _ _ hh _ => heap_ext h hh⟩
theorem Grows.ext {a b c : World} (h : Grows B T a b) (k : Ext b c) (hB : B ≤ a.heap.size) : Grows B T a c := h.trans (Grows.of_ext k (Nat.le_trans hB h.below.size))
theorem Grows.own {w w' : World} {size : Nat} {v : Value} {n : Nat} {xs : List Value} (h : w.ownsRow B T size v n xs) (hg : w.grownBy w' v.ownBlock) (hB : B ≤ w.heap.size) : Grows B T w w' :=
  ⟨Below.grown (Below.refl _ _) hg hB fun k hk => (h.lt k hk).1, fun _ _ _ _ hh hne => keep_other h (Ext.refl w) hg hh hne⟩
theorem Grows.cells {w0 : World} {b : Nat} {c : Array Value} {U : TypeId} {f : Nat × Nat} (h : w0.heap[b]? = some (.cells c U f)) (hne : U ≠ T) : ∀ (x : InC w0 (Grows B T w0)) (i : Nat), x.wd.cell? ⟨b, i, none⟩ = c[i]? :=
  InC.cells (Grows.refl w0) fun _ hW => hW.keeps _ _ _ _ h hne
end

section
variable {P : Program} {ops : Array Oper} {C : World → Prop} {Q : Exit → Act → World → Prop} {rest : List Oper} {o : Oper} {a : Act} {w : World}
/-- an append, wherever it stands -/
theorem okE_append_own {K : Act → World → Prop} {s x : Operand} {t : TypeId} (ho : o.op = .call { callee := .builtin .append, args := #[s, x], argTypes := #[t, t] })
    {base : Nat} {e : TypeId} {i : TypeInfo} {z : Value} {size bytes : Nat} (ht : P.underlying t = some (.slice e)) (hi : P.info? e = some i) (hz : i.zero = some z)
    (hsize : i.size = size) (hby : i.bytes = bytes) (hzs : z.cells.size = size) (hsz : 0 < size)
    {v : Value} {n : Nat} {xs : List Value} (hs : a.eval s = v) (hown : w.ownsRow base e size v n xs)
    {ad : Addr} {m c : Nat} {news : List Value} (hx : a.eval x = .slice (some ad) m c) (hl : news.length = m * size) (hnews : ∀ j u, news[j]? = some u → w.cell? (ad.add j) = some u) (h1 : ∀ u ∈ news, u.oneCell' = true)
    (h63 : n + m ≤ maxLen) (hbytes : (n + m) * bytes ≤ 140737488355328) (hbase : base ≤ w.heap.size)
    (h : ∀ v' w', w'.ownsRow base e size v' (n + m) (xs ++ news) → w.grownBy w' v.ownBlock → C w' ∧ K (a.put o.dst v') w') : okE P C o a w K := by
  obtain ⟨v', w', hr, h2, h3, _⟩ := run_append_own (P := P) w base t o.type e i z size bytes ht hi hz hsize hby hzs hsz v n xs hown ad m c news hl hnews h1 h63 hbytes hbase
  unfold okE execOp
  simp only [ho, resolve, invoke, builtin, Sem.run_bind, Sem.run_pure, Result.andThen_ok, List.map_toArray, List.map_cons, List.map_nil, hs, hx, hr]
  exact h v' w' h2 h3
/-- an append among the last operations -/
theorem wpTl_append_own (hw : Region.wanted o (yielded ops a.tmps) = true) {s x : Operand} {t : TypeId} (ho : o.op = .call { callee := .builtin .append, args := #[s, x], argTypes := #[t, t] })
    {base : Nat} {e : TypeId} {i : TypeInfo} {z : Value} {size bytes : Nat} (ht : P.underlying t = some (.slice e)) (hi : P.info? e = some i) (hz : i.zero = some z)
    (hsize : i.size = size) (hby : i.bytes = bytes) (hzs : z.cells.size = size) (hsz : 0 < size)
    {v : Value} {n : Nat} {xs : List Value} (hs : a.eval s = v) (hown : w.ownsRow base e size v n xs)
    {ad : Addr} {m c : Nat} {news : List Value} (hx : a.eval x = .slice (some ad) m c) (hl : news.length = m * size) (hnews : ∀ j u, news[j]? = some u → w.cell? (ad.add j) = some u) (h1 : ∀ u ∈ news, u.oneCell' = true)
    (h63 : n + m ≤ maxLen) (hbytes : (n + m) * bytes ≤ 140737488355328) (hbase : base ≤ w.heap.size)
    (h : ∀ W v' w', Ext w W → w'.ownsRow base e size v' (n + m) (xs ++ news) → W.grownBy w' v.ownBlock → C w' ∧ wpTl P ops C Q rest (a.put o.dst v') w') : wpTl P ops C Q (o :: rest) a w := by
  refine wpTl_step fun W K hW hK => ?_
  rw [if_pos hw]
  obtain ⟨v', w', hr, h2, h3, _⟩ := run_append_own (P := P) W base t o.type e i z size bytes ht hi hz hsize hby hzs hsz v n xs (own_ext hown hW) ad m c news hl (fun j u hj => hW.cell (hnews j u hj)) h1 h63 hbytes (Nat.le_trans hbase hW.size)
  unfold okE execOp
  simp only [ho, resolve, invoke, builtin, Sem.run_bind, Sem.run_pure, Result.andThen_ok, List.map_toArray, List.map_cons, List.map_nil, hs, hx, hr]
  exact ⟨(h W v' w' hW h2 h3).1, hK _ _ (h W v' w' hW h2 h3).2⟩

theorem wpTl_append_string (hw : Region.wanted o (yielded ops a.tmps) = true) {s x : Operand} {t u : TypeId} (ho : o.op = .call { callee := .builtin .append, args := #[s, x], argTypes := #[t, u] })
    {base : Nat} {e : TypeId} {i : TypeInfo} (ht : P.underlying t = some (.slice e)) (hu : P.underlying u = some .string) (hi : P.info? e = some i) (hz : i.zero = some (.int .u8 0))
    (hsize : i.size = 1) (hby : i.bytes = 1)
    {v : Value} {n : Nat} {xs : List Value} (hs : a.eval s = v) (hown : w.ownsRow base e 1 v n xs)
    {str : ByteArray} (hx : a.eval x = .string str)
    (h63 : n + str.size ≤ maxLen) (hbytes : n + str.size ≤ 140737488355328) (hbase : base ≤ w.heap.size)
    (h : ∀ W v' w', Ext w W → w'.ownsRow base e 1 v' (n + str.size) (xs ++ bcells (bytesOf str)) → W.grownBy w' v.ownBlock → C w' ∧ wpTl P ops C Q rest (a.put o.dst v') w') : wpTl P ops C Q (o :: rest) a w := by
  refine wpTl_step fun W K hW hK => ?_
  rw [if_pos hw]
  obtain ⟨v', w', hr, h2, h3, _⟩ := Lib.run_append_own_string (P := P) W base t u o.type e i ht hu hi hz hsize hby v n xs (own_ext hown hW) str h63 hbytes (Nat.le_trans hbase hW.size)
  unfold okE execOp
  simp only [ho, resolve, invoke, builtin, Sem.run_bind, Sem.run_pure, Result.andThen_ok, List.map_toArray, List.map_cons, List.map_nil, hs, hx, hr]
  exact ⟨(h W v' w' hW h2 h3).1, hK _ _ (h W v' w' hW h2 h3).2⟩
end

end Go.Proofs.Ytmobdmljbbckiaa
