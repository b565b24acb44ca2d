/- What code.Set does to the world. -/
import Derived.Test.YtommohepbpdmdaaCodePuts
namespace Go.Proofs.Ytommohepbpdmdaa
open Go.RowKit
set_option maxHeartbeats 1600000
set_option maxRecDepth 100000

/-- a set's bytes, or what is wrong with it -/
def setOut (l : List Tr) : Value := match setErr l with
  | none => .tuple #[.string ⟨(codeSet l).toArray⟩, .nilIface]
  | some n => .tuple #[.string ⟨#[]⟩, eV n]

theorem own_bytes {w : World} {base : Nat} {e : TypeId} {v : Value} {L : List UInt8} (h : w.ownsRow base e 1 v L.length (bcells L)) (hp : 0 < L.length) :
    ∃ g cap, v = .slice (some ⟨g, 0, none⟩) L.length cap ∧ base ≤ g ∧ ∀ j (hj : j < L.length), w.cell? ⟨g, j, none⟩ = some (.int .u8 L[j].toNat) := by
  obtain ⟨h1, ⟨_, h0⟩ | ⟨g, cap, cur, rfl, hg, hh, hn, hm, hs, ht⟩⟩ := h
  · omega
  · refine ⟨g, cap, rfl, hg, fun j hj => ?_⟩
    rw [cells_at hh]
    have : (cur.toList.take (L.length * 1))[j]? = some (.int .u8 L[j].toNat) := by rw [ht]; simp [bcells, hj]
    rw [List.getElem?_take_of_lt (by omega)] at this
    simpa using this

theorem codeSet_any (va : Value) (l : List Tr) (w : World) (hl : Reads encTr w va l) :
    Calls Try.prog 13 #[va] w fun e w' => e = .returned (setOut l) ∧ Ext w w' := by
  have hsort := fun W (h : Ext w W) => sorted_any va l W (hl.ext h)
  unfold setOut
  cases hE : setErr l with
  | some n =>
    rw [hE] at hsort
    dsimp only [errV] at hsort ⊢
    clear hE
    go_enter Try.func13, Try.ntmps13
    go_wp2_with (go_at_call 14; refine (hsort _ (Ext.refl _)).mono ?_; rintro e w1 ⟨rfl, hx1⟩)
    go_ret2
    exact ⟨rfl, hx1⟩
  | none =>
    obtain ⟨h200, hfit⟩ := fits_of_ok hE
    rw [hE] at hsort
    have hputs := fun W (h : Ext w W) => puts_any W (.slice none 0 0) va [] l W (World.ownsRow_nil _ _ _ _) (Ext.refl W) (by simp) (hl.ext h) h200 hfit
    simp only [List.nil_append] at hputs
    obtain ⟨L, hL⟩ : ∃ L, L = codeSet l := ⟨_, rfl⟩
    have hpos : 0 < L.length := by subst hL; simp [codeSet]
    rw [← hL] at hputs ⊢
    dsimp only [errV] at hsort ⊢
    have HP := Lib.hid hputs
    clear hE hputs hL hfit
    go_enter Try.func13, Try.ntmps13
    go_upto_region 4 with (go_at_call 14; refine (hsort _ (Ext.refl _)).mono ?_; rintro e w1 ⟨rfl, hx1⟩)
    go_wp2_with (go_at_call 39; refine (HP.out _ hx1).mono ?_; rintro e w2 ⟨v', rfl, ho2, hg2⟩; obtain ⟨g, cap, rfl, hgb, hc2⟩ := own_bytes ho2 hpos; have hcv := run_convert_bytes_back (P := Try.prog) w2 95 9 5 ⟨g, 0, none⟩ cap L Try.underlying95 Try.underlying5 Try.underlying9 (fun j hj => by rw [Addr.add_lit, Nat.zero_add]; exact hc2 j hj))
    go_ret2
    exact ⟨rfl, hx1.trans hg2.below⟩
end Go.Proofs.Ytommohepbpdmdaa
