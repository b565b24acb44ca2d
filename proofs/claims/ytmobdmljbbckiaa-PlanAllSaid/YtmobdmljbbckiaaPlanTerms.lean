/- plan.terms. -/
import Derived.Test.YtmobdmljbbckiaaPlanPure
import Derived.Test.YtmobdmljbbckiaaMatchWalks
import Derived.Test.YtmobdmljbbckiaaMapPut
import Derived.StringKeys
namespace Go.Proofs.Ytmobdmljbbckiaa
open Go.RowKit Go.Maps
set_option maxHeartbeats 1600000
set_option maxRecDepth 100000

def boolsS (K : List ByteArray) : List (Value × Value) := K.map fun v => (.string v, .bool (decide (v.size ≠ 0)))
theorem keysS : Keyed Try.prog 9 := string_keyed Try.underlying9
theorem keyS {s : ByteArray} (h : s.size ≤ maxLen) : keyOf Try.prog 9 (.string s) = some (.string s.data.toList) := Go.WideMaps.keyOf_string_mk Try.underlying9 h
theorem known_look {w : World} {b : Nat} {K : List ByteArray} (h : MapAt Try.prog 9 w b (boolsS K)) (v : ByteArray) (hv : v.size ≤ maxLen) (h0 : v.size ≠ 0) : ∀ W, Ext w W →
    (Instr.lookup 71 (.map (some b)) (.string v) false).run Try.prog W = .ok (.bool (memS K v)) W := fun W hW => by
  by_cases hin : v ∈ K
  · have := (h.ext hW).look_hit (t := 71) Try.underlying71 keysS (keyS hv) (v := .bool (decide (v.size ≠ 0))) (List.mem_map.2 ⟨v, hin, rfl⟩) false
    rw [(memS_iff K v).2 hin]
    rw [decide_eq_true h0] at this
    exact this
  · have := (h.ext hW).look_miss (t := 71) Try.underlying71 keysS (keyS hv) (fun x hx e => by
      obtain ⟨u, hu, rfl⟩ := List.mem_map.1 hx
      have e2 : u = v := by injection e
      exact hin (by rw [← e2]; exact hu)) (z := .bool false) (by kernel_rfl) false
    rw [memS_not K v hin]
    exact this


theorem planTerms_any (p : Pat) (b : Nat) (K : List ByteArray) (w : World) (hK : MapAt Try.prog 9 w b (boolsS K)) (hs : p.s.var.size ≤ maxLen ∧ p.p.var.size ≤ maxLen ∧ p.o.var.size ≤ maxLen) :
    Calls Try.prog 28 #[vPat p, .map (some b)] w fun e w' => e = .returned (.int .i64 (termsN p K)) ∧ Ext w w' := by
  obtain ⟨f, hf⟩ : ∃ f, f = p.nth := ⟨_, rfl⟩
  have hP : termsN p K = termsTo f K 3 := by subst hf; rfl
  have h0 : f 0 = p.s := by subst hf; rfl
  have h1 : f 1 = p.p := by subst hf; rfl
  have h2 : f 2 = p.o := by subst hf; rfl
  have hslots := fun W => slots_any p W
  rw [hP]
  clear hP hf
  obtain ⟨⟨v1, ⟨k1, s1, g1⟩⟩, ⟨v2, ⟨k2, s2, g2⟩⟩, ⟨v3, ⟨k3, s3, g3⟩⟩⟩ := p
  dsimp only at *
  have HF := Lib.hid (And.intro h0 (And.intro h1 h2))
  have HS := Lib.hid hslots
  have HK := Lib.hid (And.intro hK hs)
  clear h0 h1 h2 hslots hK hs
  go_enter Try.func28, Try.ntmps28
  go_wp2_with (go_at_call 30; refine (HS.out _).mono ?_; rintro e w1 ⟨rfl, hx1⟩)
  have hxw := ((Ext.refl w).alloc (.cells #[.string v1, .int .i64 k1, .string s1, .string g1, .string v2, .int .i64 k2, .string s2, .string g2, .string v3, .int .i64 k3, .string s3, .string g3] 32)).trans hx1
  clear hx1
  go_loopw [5, 10] (fun nv jv wr => ∃ (j : Nat) (ji : Int), jv = .int .i64 ji ∧ ji = (j : Int) ∧ j ≤ 3 ∧ nv = .int .i64 (termsTo f K j : Int) ∧ Ext w1 wr) (fun _ jv _ => 3 - (intOf jv).toNat)
  case atStart => exact ⟨0, 0, rfl, rfl, by omega, rfl, Ext.refl _⟩
  case round =>
    obtain ⟨j, ji, rfl, hji, hj, rfl, hx⟩ := hrel
    have hjj : j = 0 ∨ j = 1 ∨ j = 2 ∨ j = 3 := by omega
    rcases hjj with rfl | rfl | rfl | rfl
    · obtain rfl : ji = 0 := by omega
      clear hji hj
      have hfj : f 0 = ⟨v1, ⟨k1, s1, g1⟩⟩ := by exact HF.out.1
      have hle := termsTo_le f K 0
      have hst : termsTo f K (0 + 1) = termsTo f K 0 + (if slotKnown K (f 0) = true then 1 else 0) := rfl
      rw [hfj] at hst
      unfold slotKnown at hst
      dsimp only at hst
      have hwr : IntKind.i64.wrap ((termsTo f K 0 : Int) + 1) = (termsTo f K 0 : Int) + 1 := IntWalk.i64_in _ (by omega)
      have hxa := hx.alloc (.cells #[.string v1, .int .i64 k1, .string s1, .string g1] 30)
      cases hE : (v1).toList.isEmpty with
      | true =>
        have h0 : (v1).size = 0 := by rw [isEmpty_toList] at hE; simpa using hE
        rw [decide_eq_true h0] at hst
        have HJ := Lib.hid hst
        clear hst h0 hfj
        go_wp2
        go_roundw
        case rel => exact ⟨0 + 1, _, rfl, rfl, by omega, vi (by rw [HJ.out]; rfl), hxa⟩
        case measure => simp [intOf]
      | false =>
        have h0 : (v1).size ≠ 0 := fun h => by rw [isEmpty_toList] at hE; simp [h] at hE
        rw [decide_eq_false h0] at hst
        have hlk := known_look (HK.out.1.ext (hxw.trans hx)) v1 HK.out.2.1 h0 _ ((Ext.refl wr).alloc (.cells #[.string v1, .int .i64 k1, .string s1, .string g1] 30))
        cases hin : memS K v1 with
        | true =>
          rw [hin] at hst hlk
          have HJ := Lib.hid hst
          clear hst h0 hfj hin
          go_wp2
          go_roundw
          case rel => exact ⟨0 + 1, _, rfl, rfl, by omega, vi (by rw [HJ.out]; rfl), hxa⟩
          case measure => simp [intOf]
        | false =>
          rw [hin] at hst hlk
          have HJ := Lib.hid hst
          clear hst h0 hfj hin
          go_wp2
          go_roundw
          case rel => exact ⟨0 + 1, _, rfl, rfl, by omega, vi (by rw [HJ.out]; rfl), hxa⟩
          case measure => simp [intOf]
    · obtain rfl : ji = 1 := by omega
      clear hji hj
      have hfj : f 1 = ⟨v2, ⟨k2, s2, g2⟩⟩ := by exact HF.out.2.1
      have hle := termsTo_le f K 1
      have hst : termsTo f K (1 + 1) = termsTo f K 1 + (if slotKnown K (f 1) = true then 1 else 0) := rfl
      rw [hfj] at hst
      unfold slotKnown at hst
      dsimp only at hst
      have hwr : IntKind.i64.wrap ((termsTo f K 1 : Int) + 1) = (termsTo f K 1 : Int) + 1 := IntWalk.i64_in _ (by omega)
      have hxa := hx.alloc (.cells #[.string v2, .int .i64 k2, .string s2, .string g2] 30)
      cases hE : (v2).toList.isEmpty with
      | true =>
        have h0 : (v2).size = 0 := by rw [isEmpty_toList] at hE; simpa using hE
        rw [decide_eq_true h0] at hst
        have HJ := Lib.hid hst
        clear hst h0 hfj
        go_wp2
        go_roundw
        case rel => exact ⟨1 + 1, _, rfl, rfl, by omega, vi (by rw [HJ.out]; rfl), hxa⟩
        case measure => simp [intOf]
      | false =>
        have h0 : (v2).size ≠ 0 := fun h => by rw [isEmpty_toList] at hE; simp [h] at hE
        rw [decide_eq_false h0] at hst
        have hlk := known_look (HK.out.1.ext (hxw.trans hx)) v2 HK.out.2.2.1 h0 _ ((Ext.refl wr).alloc (.cells #[.string v2, .int .i64 k2, .string s2, .string g2] 30))
        cases hin : memS K v2 with
        | true =>
          rw [hin] at hst hlk
          have HJ := Lib.hid hst
          clear hst h0 hfj hin
          go_wp2
          go_roundw
          case rel => exact ⟨1 + 1, _, rfl, rfl, by omega, vi (by rw [HJ.out]; rfl), hxa⟩
          case measure => simp [intOf]
        | false =>
          rw [hin] at hst hlk
          have HJ := Lib.hid hst
          clear hst h0 hfj hin
          go_wp2
          go_roundw
          case rel => exact ⟨1 + 1, _, rfl, rfl, by omega, vi (by rw [HJ.out]; rfl), hxa⟩
          case measure => simp [intOf]
    · obtain rfl : ji = 2 := by omega
      clear hji hj
      have hfj : f 2 = ⟨v3, ⟨k3, s3, g3⟩⟩ := by exact HF.out.2.2
      have hle := termsTo_le f K 2
      have hst : termsTo f K (2 + 1) = termsTo f K 2 + (if slotKnown K (f 2) = true then 1 else 0) := rfl
      rw [hfj] at hst
      unfold slotKnown at hst
      dsimp only at hst
      have hwr : IntKind.i64.wrap ((termsTo f K 2 : Int) + 1) = (termsTo f K 2 : Int) + 1 := IntWalk.i64_in _ (by omega)
      have hxa := hx.alloc (.cells #[.string v3, .int .i64 k3, .string s3, .string g3] 30)
      cases hE : (v3).toList.isEmpty with
      | true =>
        have h0 : (v3).size = 0 := by rw [isEmpty_toList] at hE; simpa using hE
        rw [decide_eq_true h0] at hst
        have HJ := Lib.hid hst
        clear hst h0 hfj
        go_wp2
        go_roundw
        case rel => exact ⟨2 + 1, _, rfl, rfl, by omega, vi (by rw [HJ.out]; rfl), hxa⟩
        case measure => simp [intOf]
      | false =>
        have h0 : (v3).size ≠ 0 := fun h => by rw [isEmpty_toList] at hE; simp [h] at hE
        rw [decide_eq_false h0] at hst
        have hlk := known_look (HK.out.1.ext (hxw.trans hx)) v3 HK.out.2.2.2 h0 _ ((Ext.refl wr).alloc (.cells #[.string v3, .int .i64 k3, .string s3, .string g3] 30))
        cases hin : memS K v3 with
        | true =>
          rw [hin] at hst hlk
          have HJ := Lib.hid hst
          clear hst h0 hfj hin
          go_wp2
          go_roundw
          case rel => exact ⟨2 + 1, _, rfl, rfl, by omega, vi (by rw [HJ.out]; rfl), hxa⟩
          case measure => simp [intOf]
        | false =>
          rw [hin] at hst hlk
          have HJ := Lib.hid hst
          clear hst h0 hfj hin
          go_wp2
          go_roundw
          case rel => exact ⟨2 + 1, _, rfl, rfl, by omega, vi (by rw [HJ.out]; rfl), hxa⟩
          case measure => simp [intOf]
    · obtain rfl : ji = 3 := by omega
      clear hji hj
      go_wp2
      go_ret
      exact ⟨rfl, hxw.trans hx⟩
end Go.Proofs.Ytmobdmljbbckiaa
