/- set.Join. -/
import Derived.Test.YtmobdmljbbckiaaDoorLayerThen
namespace Go.Proofs.YtmobdmljbbckiaaDoor
open Go.RowKit
set_option maxHeartbeats 3200000
set_option maxRecDepth 100000

theorem join_full (va vb : Value) (a b : List Tr) (w : World) (ha : Reads encTr w va a) (hb : Reads encTr w vb b) (hr : rightErr [a, b] = none) (hn : 200 < (unionL cmpTr a b).length) :
    Calls Tryd.prog 7 #[va, vb] w fun e w' => e = .returned (.tuple #[.slice none 0 0, eV 4]) ∧ Ext w w' := by
  have hright := fun W (hW : Ext w W) => right_pair va vb a b W (ha.ext hW) (hb.ext hW) none hr
  dsimp only [errV] at hright
  obtain ⟨sa, sb⟩ := rightErr_pair hr
  have hu := fun W (hW : Ext w W) => union_own va vb a b W (ha.ext hW) (hb.ext hW) (by have := sa.1; have := sb.1; omega)
  generalize (unionL cmpTr a b) = U at hu hn
  obtain ⟨aa, ca, rfl⟩ := ha.slice
  obtain ⟨ab, cb, rfl⟩ := hb.slice
  have HH := Lib.hid (And.intro hright hu)
  clear hright hu ha hb hr sa sb
  have hx0 := Ext.refl w
  have hn' : (U.length : Int) > 200 := by omega
  go_enter Tryd.func7, Tryd.ntmps7
  go_wp2_with (first | (go_at_call 17; refine (HH.out.1 _ hx0).mono ?_; rintro e w1 ⟨rfl, hx1⟩) | (go_at_call 18; refine (HH.out.2 _ hx1).mono ?_; rintro e w2 ⟨p, c, rfl, _, hx2⟩))
  go_ret2
  exact ⟨rfl, hx1.trans hx2⟩

theorem join_ok (va vb : Value) (a b : List Tr) (w : World) (ha : Reads encTr w va a) (hb : Reads encTr w vb b) (hr : rightErr [a, b] = none) (hn : (unionL cmpTr a b).length ≤ 200) :
    Calls Tryd.prog 7 #[va, vb] w fun e w' => ∃ p c, e = .returned (.tuple #[.slice p (unionL cmpTr a b).length c, .nilIface]) ∧ Ext w w' := by
  have hright := fun W (hW : Ext w W) => right_pair va vb a b W (ha.ext hW) (hb.ext hW) none hr
  dsimp only [errV] at hright
  obtain ⟨sa, sb⟩ := rightErr_pair hr
  have hu := fun W (hW : Ext w W) => union_own va vb a b W (ha.ext hW) (hb.ext hW) (by have := sa.1; have := sb.1; omega)
  generalize (unionL cmpTr a b) = U at hu hn
  obtain ⟨aa, ca, rfl⟩ := ha.slice
  obtain ⟨ab, cb, rfl⟩ := hb.slice
  have HH := Lib.hid (And.intro hright hu)
  clear hright hu ha hb hr sa sb
  have hx0 := Ext.refl w
  have hn' : ¬ (U.length : Int) > 200 := by omega
  go_enter Tryd.func7, Tryd.ntmps7
  go_wp2_with (first | (go_at_call 17; refine (HH.out.1 _ hx0).mono ?_; rintro e w1 ⟨rfl, hx1⟩) | (go_at_call 18; refine (HH.out.2 _ hx1).mono ?_; rintro e w2 ⟨p, c, rfl, _, hx2⟩))
  go_ret2
  exact ⟨_, _, rfl, hx1.trans hx2⟩
end Go.Proofs.YtmobdmljbbckiaaDoor
