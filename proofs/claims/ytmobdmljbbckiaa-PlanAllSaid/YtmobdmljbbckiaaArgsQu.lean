/- Patterns and queries, opened. -/
import Derived.Test.YtmobdmljbbckiaaArgsTr
import Derived.Test.YtmobdmljbbckiaaQueryPure
namespace Go.Proofs.Ytmobdmljbbckiaa
open Go.ChangeShapes Go.WideShapes Go.RowKit
set_option maxRecDepth 100000

theorem cut6 {c : List Value} (h : c.length = 6) : c = (c.drop 0).take 1 ++ ((c.drop 1).take 1 ++ ((c.drop 2).take 1 ++ ((c.drop 3).take 1 ++ ((c.drop 4).take 1 ++ (c.drop 5).take 1)))) := by
  match c, h with
  | [_, _, _, _, _, _], _ => rfl
theorem Opens.struct6 {P : Program} {T : TypeId} {f0 f1 f2 f3 f4 f5 : Field} {A0 A1 A2 A3 A4 A5 : Type} {e0 : A0 → List Value} {g0 : World → A0 → Prop} {e1 : A1 → List Value} {g1 : World → A1 → Prop} {e2 : A2 → List Value} {g2 : World → A2 → Prop}
    {e3 : A3 → List Value} {g3 : World → A3 → Prop} {e4 : A4 → List Value} {g4 : World → A4 → Prop} {e5 : A5 → List Value} {g5 : World → A5 → Prop}
    (ht : P.underlying T = some (.struct #[f0, f1, f2, f3, f4, f5])) (hc : P.cellsOf T = 6) (h0 : Opens P f0.type 1 e0 g0) (h1 : Opens P f1.type 1 e1 g1) (h2 : Opens P f2.type 1 e2 g2) (h3 : Opens P f3.type 1 e3 g3) (h4 : Opens P f4.type 1 e4 g4) (h5 : Opens P f5.type 1 e5 g5)
    (o0 : f0.offset = 0) (o1 : f1.offset = 1) (o2 : f2.offset = 2) (o3 : f3.offset = 3) (o4 : f4.offset = 4) (o5 : f5.offset = 5) :
    Opens P T 6 (fun a : A0 × A1 × A2 × A3 × A4 × A5 => e0 a.1 ++ (e1 a.2.1 ++ (e2 a.2.2.1 ++ (e3 a.2.2.2.1 ++ (e4 a.2.2.2.2.1 ++ e5 a.2.2.2.2.2))))) (fun w a => g0 w a.1 ∧ g1 w a.2.1 ∧ g2 w a.2.2.1 ∧ g3 w a.2.2.2.1 ∧ g4 w a.2.2.2.2.1 ∧ g5 w a.2.2.2.2.2) := by
  refine ⟨hc, fun a => by simp [h0.len, h1.len, h2.len, h3.len, h4.len, h5.len], fun hv w fuel cs x hx => ?_⟩
  obtain ⟨xs, n, _, _, hl, hxl, hf⟩ := DataW.trod_struct ht hx
  match xs, hxl with
  | [y0, y1, y2, y3, y4, y5], _ =>
    have t0 := hf 0 f0 rfl
    have t1 := hf 1 f1 rfl
    have t2 := hf 2 f2 rfl
    have t3 := hf 3 f3 rfl
    have t4 := hf 4 f4 rfl
    have t5 := hf 5 f5 rfl
    rw [o0, h0.cells] at t0
    rw [o1, h1.cells] at t1
    rw [o2, h2.cells] at t2
    rw [o3, h3.cells] at t3
    rw [o4, h4.cells] at t4
    rw [o5, h5.cells] at t5
    obtain ⟨a, ha, ga⟩ := h0.fits hv w n _ _ t0
    obtain ⟨b, hb, gb⟩ := h1.fits hv w n _ _ t1
    obtain ⟨c, hc', gc⟩ := h2.fits hv w n _ _ t2
    obtain ⟨d, hd, gd⟩ := h3.fits hv w n _ _ t3
    obtain ⟨e, he, ge⟩ := h4.fits hv w n _ _ t4
    obtain ⟨f, hf', gf⟩ := h5.fits hv w n _ _ t5
    refine ⟨(a, b, c, d, e, f), ?_, ga, gb, gc, gd, ge, gf⟩
    dsimp only
    rw [← ha, ← hb, ← hc', ← hd, ← he, ← hf']
    exact cut6 (hl.trans hc)

theorem opens_slot : Opens Try.prog 30 4 encSlot (fun _ _ => True) :=
  (Opens.struct2 (P := Try.prog) (T := 30) Try.underlying30 (by kernel_rfl) (Opens.string Try.underlying9 (by kernel_rfl)) opens_tm rfl rfl).map
    (fun a => ⟨a.1, a.2⟩) (fun _ => rfl) (fun _ => rfl) (fun _ _ _ => trivial)
theorem opens_pat : Opens Try.prog 32 12 encPat (fun _ _ => True) :=
  (Opens.struct3 (P := Try.prog) (T := 32) Try.underlying32 (by kernel_rfl) opens_slot opens_slot opens_slot rfl rfl rfl).map
    (fun a => ⟨a.1, a.2.1, a.2.2⟩) (fun _ => rfl) (fun _ => rfl) (fun _ _ _ => trivial)
/-- a query reads so -/
def QReads (w : World) (v : Value) (q : Qu) : Prop := ∃ vv vp, v = vQu vv vp q ∧ Reads encS w vv q.vars ∧ Reads encPat w vp q.parts
section
variable {H : Type} {enc : TypeId × Value → H} {w : World} {r : Reach} {b0 : Nat} {v : Value} {d : DataW H} {ps : List MemPlace}
theorem open_query (hval : Value.okWide Try.prog w r b0 26 v) (hd : DataW.Trod enc Try.prog w 0 (fun _ => true) true 26 v d ps) : ∃ q, QReads w v q ∧ True := by
  have hq := Opens.struct6 (P := Try.prog) (T := 26) Try.underlying26 (by kernel_rfl)
    ((Opens.string (P := Try.prog) Try.underlying9 (by kernel_rfl)).slice (by decide) Try.underlying23 (by kernel_rfl)) (opens_pat.slice (by decide) Try.underlying24 (by kernel_rfl))
    (Opens.string (P := Try.prog) Try.underlying9 (by kernel_rfl)) (Opens.bool (P := Try.prog) Try.underlying4 (by kernel_rfl)) (Opens.bool (P := Try.prog) Try.underlying4 (by kernel_rfl)) (Opens.int (P := Try.prog) Try.underlying3 (by kernel_rfl)) rfl rfl rfl rfl rfl rfl
  obtain ⟨⟨vv, vp, order, down, dist, limit⟩, rfl, ⟨vars, hv, _⟩, ⟨parts, hp, _⟩, _⟩ := hq.vagg Try.underlying26 hval hd
  exact ⟨⟨vars, parts, order, down, dist, limit⟩, ⟨vv, vp, rfl, hv, hp⟩, trivial⟩
end
end Go.Proofs.Ytmobdmljbbckiaa
