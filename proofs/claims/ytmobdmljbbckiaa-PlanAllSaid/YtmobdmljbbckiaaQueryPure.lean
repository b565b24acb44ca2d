/- Queries in plain mathematics: what is wrong with one. -/
import Derived.Test.YtmobdmljbbckiaaMatchPure
namespace Go.Proofs.Ytmobdmljbbckiaa
open Go.RowKit

structure Qu where
  vars : List ByteArray
  parts : List Pat
  order : ByteArray
  down : Bool
  dist : Bool
  limit : Int
abbrev vQu (vv vp : Value) (q : Qu) : Value := .agg #[vv, vp, .string q.order, .bool q.down, .bool q.dist, .int .i64 q.limit]
theorem encPat_len : ∀ p : Pat, (encPat p).length = 12 := fun _ => rfl
theorem Pat.cells {w : World} {b off : Nat} {l : List Pat} (hc : ∀ t u, (l.flatMap encPat)[t]? = some u → w.cell? ⟨b, off + t, none⟩ = some u) {j : Nat} (hj : j < l.length) :
    w.cell? ⟨b, off + j * 12, none⟩ = some (.string l[j].s.var) ∧ w.cell? ⟨b, off + j * 12 + 1, none⟩ = some (.int .i64 l[j].s.term.kind) ∧ w.cell? ⟨b, off + j * 12 + 2, none⟩ = some (.string l[j].s.term.s) ∧ w.cell? ⟨b, off + j * 12 + 3, none⟩ = some (.string l[j].s.term.lang) ∧ w.cell? ⟨b, off + j * 12 + 4, none⟩ = some (.string l[j].p.var) ∧ w.cell? ⟨b, off + j * 12 + 5, none⟩ = some (.int .i64 l[j].p.term.kind) ∧ w.cell? ⟨b, off + j * 12 + 6, none⟩ = some (.string l[j].p.term.s) ∧ w.cell? ⟨b, off + j * 12 + 7, none⟩ = some (.string l[j].p.term.lang) ∧ w.cell? ⟨b, off + j * 12 + 8, none⟩ = some (.string l[j].o.var) ∧ w.cell? ⟨b, off + j * 12 + 9, none⟩ = some (.int .i64 l[j].o.term.kind) ∧ w.cell? ⟨b, off + j * 12 + 10, none⟩ = some (.string l[j].o.term.s) ∧ w.cell? ⟨b, off + j * 12 + 11, none⟩ = some (.string l[j].o.term.lang) := by
  have h : ∀ c (hc6 : c < 12) u, (encPat l[j])[c]? = some u → w.cell? ⟨b, off + j * 12 + c, none⟩ = some u := fun c hc6 u hu => by
    rw [Nat.add_assoc]
    exact hc _ _ ((flat_get encPat_len l j c hj hc6).trans hu)
  exact ⟨h 0 (by omega) _ rfl, h 1 (by omega) _ rfl, h 2 (by omega) _ rfl, h 3 (by omega) _ rfl, h 4 (by omega) _ rfl, h 5 (by omega) _ rfl, h 6 (by omega) _ rfl, h 7 (by omega) _ rfl, h 8 (by omega) _ rfl, h 9 (by omega) _ rfl, h 10 (by omega) _ rfl, h 11 (by omega) _ rfl⟩

/-- a variable more, each once -/
def addV (out : List ByteArray) (v : ByteArray) : List ByteArray := if (out.any fun x => decide (v = x)) = true then out else out ++ [v]
def addVs (out : List ByteArray) (vs : List ByteArray) : List ByteArray := vs.foldl addV out
def varsAll (ps : List Pat) : List ByteArray := ps.foldl (fun out p => addVs out (patVars p)) []
def partsErr (ps : List Pat) : Option Int := firstErr (fun i => patErr (ps.getD i default)) ps.length
theorem varsAll_snoc (ps : List Pat) (p : Pat) : varsAll (ps ++ [p]) = addVs (varsAll ps) (patVars p) := by simp [varsAll]
theorem addV_len (out : List ByteArray) (v : ByteArray) : (addV out v).length ≤ out.length + 1 := by unfold addV; split <;> simp
theorem addVs_len : ∀ (vs out : List ByteArray), (addVs out vs).length ≤ out.length + vs.length
  | [], out => by simp [addVs]
  | v :: vs, out => by
    have h1 := addVs_len vs (addV out v)
    have h2 := addV_len out v
    have e : addVs out (v :: vs) = addVs (addV out v) vs := rfl
    rw [e, List.length_cons]; omega
theorem addVs_snoc (out vs : List ByteArray) (v : ByteArray) : addVs out (vs ++ [v]) = addV (addVs out vs) v := by simp [addVs]
theorem patVars_len (p : Pat) : (patVars p).length ≤ 3 := varsTo_le p.nth 3
theorem varsAll_len : ∀ (n : Nat) (ps : List Pat), ps.length = n → (varsAll ps).length ≤ 3 * n
  | 0, ps, h => by rw [List.length_eq_zero_iff.1 h]; simp [varsAll]
  | n + 1, ps, h => by
    have hne : ps ≠ [] := fun e => by rw [e] at h; simp at h
    have e := List.dropLast_concat_getLast hne
    rw [← e, varsAll_snoc]
    have h1 := addVs_len (patVars (ps.getLast hne)) (varsAll ps.dropLast)
    have h2 := patVars_len (ps.getLast hne)
    have h3 := varsAll_len n ps.dropLast (by simp [h])
    omega
/-- what is wrong with a query -/
def askErr (q : Qu) : Option Int :=
  if 6 < q.parts.length then some 4 else if q.parts.length = 0 then some 5 else
  (partsErr q.parts).or (if 8 < (varsAll q.parts).length then some 4 else if q.vars.length = 0 ∨ (q.vars.any fun s => !((varsAll q.parts).any fun x => decide (s = x))) = true then some 5 else
  (firstErr (fun i => if ((q.vars.take i).any fun x => decide (q.vars.getD i noText = x)) = true then some 7 else none) q.vars.length).or
  (if q.order.size ≠ 0 ∧ (q.vars.any fun x => decide (q.order = x)) = false then some 5 else if q.down = true ∧ q.order.size = 0 then some 3 else if q.limit < -1 ∨ 500 < q.limit then some 1 else none))
end Go.Proofs.Ytmobdmljbbckiaa
