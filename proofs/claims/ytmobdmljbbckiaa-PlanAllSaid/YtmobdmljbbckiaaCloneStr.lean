/- slices.Clone at texts. -/
import Derived.Test.YtmobdmljbbckiaaFuncsTr
namespace Go.Proofs.Ytmobdmljbbckiaa
open Go.RowKit Go.WideShapes
set_option maxHeartbeats 1600000
set_option maxRecDepth 100000

theorem encS_len : ∀ x : ByteArray, (encS x).length = 1 := fun _ => rfl
theorem encS_one (l : List ByteArray) : ∀ u ∈ l.flatMap encS, u.oneCell' = true := by
  intro u hu
  obtain ⟨x, _, hx⟩ := List.mem_flatMap.1 hu
  simp [encS] at hx
  subst hx; rfl
@[go_sem] theorem eql_nil_strs (a : Option Addr) (n c : Nat) (w : World) : (binOp .eql 23 (.slice a n c) (.slice none 0 0)).run Try.prog w = .ok (.bool a.isNone) w := Lib.run_eql_slice_nil w _ _ a n c 0 0 Try.underlying23

theorem clone_str (v : Value) (l : List ByteArray) (w : World) (hl : Reads encS w v l) (hn : l.length ≤ 100000) :
    Calls Try.prog 33 #[v] w fun e w' => ∃ v', e = .returned v' ∧ w'.ownsRow w.heap.size 9 1 v' l.length (l.flatMap encS) ∧ Ext w w' := by
  obtain ⟨a, cap, rfl, hcap, hmax, hcells⟩ := hl
  obtain ⟨i0, z, hi, hz0, hz1, hz2, hz3⟩ : ∃ i z, Try.prog.info? 9 = some i ∧ i.zero = some z ∧ i.size = 1 ∧ i.bytes = 16 ∧ z.cells.size = 1 := ⟨_, _, rfl, rfl, rfl, rfl, rfl⟩
  cases a with
  | none =>
    have h0 : l = [] := by
      cases l with
      | nil => rfl
      | cons x r =>
        obtain ⟨b, off, h, _⟩ := hcells (by simp)
        cases h
    subst h0
    clear hcells
    go_enter Try.func33, Try.ntmps33
    go_wp2
    go_ret
    exact ⟨_, rfl, World.ownsRow_nil _ _ _ _, Ext.refl _⟩
  | some ad =>
    have hnews : ∀ j u, (l.flatMap encS)[j]? = some u → w.cell? (ad.add j) = some u := by
      intro j u hju
      have hne : l ≠ [] := fun h => by subst h; simp at hju
      obtain ⟨b, off, h, hc⟩ := hcells hne
      cases h
      rw [add_plain]
      exact hc j u hju
    have HN := Lib.hid hnews
    unfold maxLen at hmax
    clear hcells hnews
    go_enter Try.func33, Try.ntmps33
    go_wp2_with (at_builtin; refine wpList_append_own _ rfl _ _ 23 rfl w.heap.size 9 i0 z 1 16 Try.underlying23 hi hz0 hz1 hz2 hz3 (by decide) _ 0 [] rfl ?c0 ad l.length cap (l.flatMap encS) rfl ?c1 ?c2 ?c3 ?c4 ?c5 ?c6 ?_)
    case c0 => exact own_new w w.heap.size #[] 9 0 1 (Nat.le_refl _) (Nat.zero_le _) rfl
    case c1 => exact flat_len encS_len l
    case c2 => exact fun j u hj => ((Ext.refl w).alloc _).cell (HN.out j u hj)
    case c3 => exact encS_one l
    case c4 => unfold maxLen; omega
    case c5 => omega
    case c6 => simp
    intro v' w1 hown hgrow _
    have hx : Ext w w1 := ((Ext.refl w).alloc _).grown hgrow (by simp) (fun j hj => by simp [Value.ownBlock, Act.eval] at hj; omega)
    clear hgrow
    go_wp2
    go_ret
    exact ⟨_, rfl, hown, hx⟩


end Go.Proofs.Ytmobdmljbbckiaa
