/- What the functions of package dag do to the world, each by its contract. -/
import Derived.Test.YtommohepbpdmdaaChecked
import Derived.Test.YtommohepbpdmdaaDagPure
import Derived.Test.YtommohepbpdmdaaFuncs
import Derived.Test.YtommohepbpdmdaaErrs
namespace Go.Proofs.Ytommohepbpdmdaa
open Go.RowKit

theorem infoInt : (Try.prog.info? 3).map (fun i => (i.zero, i.size, i.bytes)) = some (some (.int .i64 0), 1, 8) := by kernel_rfl

set_option maxHeartbeats 800000 in
set_option maxRecDepth 1000000 in
/-- (*Set).list: of a set its numbers, rising. -/
theorem list_any (b : Nat) (S : Nat → Bool) (w : World) (hc0 : Bools 60 w b S) :
    Calls Try.prog 37 #[.pointer (some ⟨b, 0, none⟩)] w fun e w' =>
      ∃ v, e = .returned v ∧ w'.ownsRow w.heap.size 3 1 v (pick S 60).length ((pick S 60).map (Value.int .i64)) ∧ Ext w w' := by
  have hb : b < w.heap.size := World.block_lt_of_cell? w _ (hc0 0 (by omega)).1
  obtain ⟨i0, hi, hz0, hz1, hz2⟩ := info_parts infoInt
  go_enter Try.func37, Try.ntmps37
  go_wp2
  go_loopw [2, 6] (fun v i wr => ∃ k : Nat, k ≤ 60 ∧ i = .int .i64 k ∧ wr.ownsRow w.heap.size 3 1 v (pick S k).length ((pick S k).map (Value.int .i64)) ∧ Ext w wr)
    (fun _ i _ => 60 - (intOf i).toNat)
  case atStart => exact ⟨0, Nat.zero_le _, rfl, World.ownsRow_nil _ _ _ _, Ext.refl _⟩
  case round =>
    obtain ⟨k, hk, rfl, hown, hnx⟩ := hrel
    by_cases hlt : k < 60
    · have hlen := pick_le S k
      cases hS : S k with
      | true =>
        have hcx : wr.cell? ⟨b, k, none⟩ = some (.bool true) := by rw [← hS]; exact hnx.cell (hc0 k hlt).1
        have HP := Lib.hid (pick_hit S k hS)
        clear hS hc0
        go_wp2
        go_quiet (fail)
        rename_i nq _
        go_wp2_with (at_builtin; refine wpList_append_own _ rfl _ _ 22 rfl w.heap.size 3 i0 (.int .i64 0) 1 8 Try.underlying22 hi hz0 hz1 hz2 rfl (by decide) _ _ _ rfl (ownsRow_drewN (hown.alloc _) nq) ⟨wr.heap.size, 0, none⟩ 1 1 [.int .i64 k] rfl rfl ?c1 ?c2 ?c3 ?c4 ?c5 ?_)
        case c1 => exact cell_one_new _ _ _
        case c2 => simp [Value.oneCell']
        case c3 => unfold maxLen; omega
        case c4 => omega
        case c5 => have := hnx.size; simp; omega
        intro v' w1 hown' hgrow _
        have hx : Ext w w1 := ((hnx.drewN nq).alloc _).grown hgrow (by have := hnx.size; simp; omega) (fun j hj => (hown.lt j hj).1)
        clear hgrow
        go_wp2
        go_roundw
        case rel => exact ⟨k + 1, by omega, vi (by omega), by rw [HP.out]; simpa using hown', hx⟩
        case measure => simp [intOf]; omega
      | false =>
        have hcx : wr.cell? ⟨b, k, none⟩ = some (.bool false) := by rw [← hS]; exact hnx.cell (hc0 k hlt).1
        have HP := Lib.hid (pick_miss S k hS)
        clear hS hc0
        go_wp2
        go_quiet (fail)
        go_wp2
        go_roundw
        case rel => exact ⟨k + 1, by omega, vi (by omega), by rw [HP.out]; exact ownsRow_drewN hown _, hnx.drewN _⟩
        case measure => simp [intOf]; omega
    · have hkl : k = 60 := by omega
      subst hkl
      go_wp2
      go_ret
      exact ⟨_, rfl, hown, hnx⟩


theorem Cm.cells {w : World} {b off : Nat} {cs : List Cm} (hc : ∀ t u, (cs.flatMap encCm)[t]? = some u → w.cell? ⟨b, off + t, none⟩ = some u) {k : Nat} (hk : k < cs.length) :
    w.cell? ⟨b, off + k * 3, none⟩ = some cs[k].pv ∧ w.cell? ⟨b, off + k * 3 + 1, none⟩ = some (.int .i64 cs[k].layer) ∧ w.cell? ⟨b, off + k * 3 + 2, none⟩ = some (.string cs[k].msg) := by
  have hk3 : ∀ x : Cm, (encCm x).length = 3 := fun _ => rfl
  exact ⟨hc _ _ ((flat_get hk3 cs k 0 hk (by omega)).trans rfl), by rw [Nat.add_assoc]; exact hc _ _ ((flat_get hk3 cs k 1 hk (by omega)).trans rfl), by rw [Nat.add_assoc]; exact hc _ _ ((flat_get hk3 cs k 2 hk (by omega)).trans rfl)⟩

set_option maxHeartbeats 1600000 in
set_option maxRecDepth 1000000 in
/-- Of: of a commit all that it comes of, and itself. -/
theorem of_any (lv : Value) (cs : List Cm) (i : Nat) (w : World) (hl : CommitsAt w lv cs) (ha : Ahead cs) (hi : i < cs.length) (h60 : cs.length ≤ 60) :
    Calls Try.prog 36 #[lv, .int .i64 i] w fun e w' =>
      ∃ b, e = .returned (.pointer (some ⟨b, 0, none⟩)) ∧ w.heap.size ≤ b ∧ Bools 60 w' b (anc cs i) ∧ Ext w w' := by
  obtain ⟨⟨a, cap, rfl, hcap, hmax, hcells⟩, hps⟩ := hl
  obtain ⟨lb, lo, rfl, hcc⟩ := hcells (fun h => by simp [h] at hi)
  unfold maxLen at hmax
  go_enter Try.func36, Try.ntmps36
  go_upto_region 2 with (fail)
  generalize hw1 : World.alloc w _ = w1
  have hB : Bools 60 w1 w.heap.size (fun _ => false) := by rw [← hw1]; exact bools_new 60 w _ _ rfl
  have hx : Ext w w1 := by rw [← hw1]; exact (Ext.refl w).alloc _
  clear hw1
  have hB1 := hB.set (show i < 60 by omega) true
  have hc1 := (hB i (by omega)).1
  have hf1 := (hB i (by omega)).2
  clear hB hcells
  go_wp2
  go_loopw [6] (fun kv wr => ∃ (m : Nat) (S : Nat → Bool), kv = .int .i64 ((m : Int) - 1) ∧ m ≤ cs.length ∧ Bools 60 wr w.heap.size S ∧ comes cs m S = anc cs i ∧ Ext w wr)
    (fun kv _ => (intOf kv + 1).toNat)
  case atStart =>
    refine ⟨i + 1, _, vi (by omega), hi, hB1, ?_, Below.setCell hx (Nat.le_refl _) _⟩
    simp [anc]
  case round =>
    obtain ⟨m, S, rfl, hm, hBr, hS, hxr⟩ := hrel
    clear hB1 hc1 hf1 hx
    cases m with
    | zero =>
      go_wp2
      go_ret
      exact ⟨_, rfl, Nat.le_refl _, by simpa [comes] using hS ▸ hBr, hxr⟩
    | succ k =>
      rw [show ((k + 1 : Nat) : Int) - 1 = (k : Int) by omega]
      have hkl : k < cs.length := hm
      have HS := Lib.hid hS
      clear hS hm
      cases hSk : S k with
      | false =>
        have hcx : wr.cell? ⟨w.heap.size, k, none⟩ = some (.bool false) := by rw [← hSk]; exact (hBr k (by omega)).1
        have HK := Lib.hid hSk
        clear hSk
        go_wp2
        go_roundw
        case rel => exact ⟨k, S, vi (by omega), by omega, hBr, by have := HS.out; rw [comes, HK.out] at this; simpa using this, hxr⟩
        case measure => simp [intOf]
      | true =>
        have hcx : wr.cell? ⟨w.heap.size, k, none⟩ = some (.bool true) := by rw [← hSk]; exact (hBr k (by omega)).1
        have HK := Lib.hid hSk
        obtain ⟨pa, pcap, hpv, hp1, hp2, hp3⟩ := (hps k hkl)
        have hpc : wr.cell? ⟨lb, lo + k * 3, none⟩ = some (.slice pa cs[k].ps.length pcap) := by rw [← hpv]; exact hxr.cell (Cm.cells hcc hkl).1
        unfold maxLen at hp2
        have HPV := Lib.hid hpv
        clear hSk hpv
        go_wp2
        obtain ⟨wo, rfl⟩ : ∃ wo : World, wo = wr := ⟨_, rfl⟩
        go_loopw [25] (fun jv w2 => ∃ j : Nat, jv = .int .i64 j ∧ j ≤ cs[k].ps.length ∧ Bools 60 w2 w.heap.size (markAll S (cs[k].ps.take j)) ∧ Ext w w2)
          (fun jv _ => cs[k].ps.length - (intOf jv).toNat)
        case atStart => exact ⟨0, rfl, Nat.zero_le _, by simpa [markAll_nil] using hBr, hxr⟩
        case round =>
          obtain ⟨j, rfl, hj, hB2, hx2⟩ := hrel
          by_cases hjl : j < cs[k].ps.length
          · obtain ⟨pb, po, rfl, hpcells⟩ := hp3 (fun h => by simp [h] at hjl)
            obtain ⟨hq0, hq1⟩ := ha.at hkl hjl
            obtain ⟨p, hp⟩ := Int.eq_ofNat_of_zero_le hq0
            have hpx : wr.cell? ⟨pb, po + j, none⟩ = some (.int .i64 p) := by rw [← hp]; exact hx2.cell (Reads.int_at hpcells hjl)
            have hp60 : p < 60 := by omega
            have hB3 := hB2.set hp60 true
            have hc2 := (hB2 p hp60).1
            have hf2 := (hB2 p hp60).2
            have hm2 : (fun t => if t = p then true else markAll S (cs[k].ps.take j) t) = markAll S (cs[k].ps.take (j + 1)) := by
              rw [List.take_succ_eq_append_getElem hjl, markAll_snoc _ _ p _ hp]
            have HM := Lib.hid hm2
            clear hp hq0 hq1 hm2 hBr hcx hpc hpcells hB2
            go_wp2
            go_roundw
            case rel => exact ⟨j + 1, vi (by omega), by omega, by rw [← HM.out]; exact hB3, Below.setCell hx2 (Nat.le_refl _) _⟩
            case measure => simp [intOf]; omega
          · have hjj : j = cs[k].ps.length := by omega
            subst hjj
            clear hBr hcx hpc
            go_wp2
            go_roundw
            case rel => exact ⟨k, _, vi (by omega), by omega, hB2, by have := HS.out; rw [comes, HK.out, par_at hkl] at this; rw [List.take_length]; simpa using this, hx2⟩
            case measure => simp [intOf]


set_option maxHeartbeats 800000 in
set_option maxRecDepth 100000 in
/-- Message: one that is right. -/
theorem message_ok (s : ByteArray) (w : World) (hs : okMsg s) :
    Calls Try.prog 153 #[.string s] w fun e w' => e = .returned .nilIface ∧ Ext w w' := by
  obtain ⟨h24, hb⟩ := hs
  have H24 : ¬ (24 < s.size) := by omega
  obtain ⟨c, w2, hcv, hx, hcap, hmax, hcells⟩ := conv_bytes (P := Try.prog) w 9 95 5 s Try.underlying9 Try.underlying95 Try.underlying5 (by unfold maxLen; omega)
  unfold maxLen at hmax
  go_enter Try.func153, Try.ntmps153
  go_wp2
  go_loop [12] (fun jv => ∃ j : Nat, jv = .int .i64 j ∧ j ≤ s.size) (fun jv => s.size - (intOf jv).toNat)
  case atStart => exact ⟨0, rfl, Nat.zero_le _⟩
  case round =>
    obtain ⟨j, rfl, hj⟩ := hrel
    by_cases hlt : j < s.size
    · have hcx := hcells j hlt
      obtain ⟨h1, h2⟩ := hb j hlt
      clear hcells hb hcv
      go_wp2
      go_round
      case rel => exact ⟨j + 1, vi (by omega), hlt⟩
      case measure => simp [intOf]; omega
    · clear hcells hb hcv
      go_wp2
      go_ret
      exact ⟨rfl, hx⟩


theorem ready1_enters : ∀ args w, (callFunc 84 args).run Try.prog w = .ok (.enter 84 args) w := Go.Proofs.enters_of Try.func84 (by kernel_rfl) rfl


set_option maxHeartbeats 800000 in
/-- the closure of commit: is a parent out of range? -/
theorem commit1_any (W : World) (x : Int) (b : Nat) (i : Int) (hc : W.cell? ⟨b, 0, none⟩ = some (.int .i64 i)) :
    Calls Try.prog 154 #[.int .i64 x, .pointer (some ⟨b, 0, none⟩)] W fun e w' => e = .returned (.bool (decide (x < 0) || decide (i ≤ x))) ∧ Ext W w' := by
  by_cases h : x < 0
  · go_enter Try.func154, Try.ntmps154
    go_wp2
    go_ret
    exact ⟨by simp [h], Ext.refl _⟩
  · go_enter Try.func154, Try.ntmps154
    go_wp2
    go_ret
    exact ⟨by simp [show ¬ x < 0 by omega], Ext.refl _⟩

/-- the four orders of a test of two in a slot: as a Bool -/
theorem commit_tells (w : World) (b : Nat) (i : Int) (l : List Int) (hc : w.cell? ⟨b, 0, none⟩ = some (.int .i64 i)) :
    Tells w.heap.size w 154 #[.pointer (some ⟨b, 0, none⟩)] (Value.int .i64) (fun x => decide (x < 0) || decide (i ≤ x)) (· ∈ l) :=
  ⟨Go.Proofs.enters_of Try.func154 (by kernel_rfl) rfl, fun W x _ hW => commit1_any W x b i (Ext.cell hW hc)⟩

set_option maxHeartbeats 1600000 in
set_option maxRecDepth 100000 in
/-- commit: one that is right. -/
theorem commit_ok (c : Cm) (i : Nat) (w : World) (hok : okCm c i) (hp : Reads encI w c.pv c.ps) :
    Calls Try.prog 124 #[.agg #[c.pv, .int .i64 c.layer, .string c.msg], .int .i64 i] w fun e w' => e = .returned .nilIface ∧ Ext w w' := by
  obtain ⟨h2, hahead, hun, hmsg, hl1, hl2⟩ := hok
  have hnone : (c.ps.any fun x => decide (x < 0) || decide ((i : Int) ≤ x)) = false := by
    rw [List.any_eq_false]; intro x hx; have := hahead x hx; simp; omega
  have HP := Lib.hid hp
  obtain ⟨pa, pcap, hpv, hp1, hp2, hp3⟩ := hp
  obtain ⟨pv, ps, layer, msg⟩ := c
  dsimp only at *
  subst hpv
  have HU := Lib.hid hun
  have HN := Lib.hid hnone
  clear hahead hun hnone
  unfold maxLen at hp2
  go_enter Try.func124, Try.ntmps124
  go_wp2_with (go_at_call 153; refine (message_ok _ _ hmsg).mono ?_; rintro e w1 ⟨rfl, hx1⟩; obtain ⟨hc1, hf1⟩ := hx1.rules)
  have hxw : Ext w w1 := (((Ext.refl w).alloc _).alloc _).trans hx1
  have hR : Reads encI w1 (.slice pa ps.length pcap) ps := HP.out.ext hxw
  have hcb : w1.cell? ⟨w.heap.size + 1, 0, none⟩ = some (.int .i64 i) := by go_simp
  have hC := containsFunc_int _ ps w1 w1.heap.size _ _ _ hR (Nat.le_refl _) (commit_tells w1 (w.heap.size + 1) i ps hcb)
  rw [HN.out] at hC
  have HC := Lib.hid hC
  have HR := Lib.hid hR
  clear hC hR
  have hsz : w.heap.size + 1 < w1.heap.size := by have := hx1.size; simp at this; omega
  go_wp2_with (go_at_call 83; refine HC.out.mono ?_; rintro e w2 ⟨rfl, hx2⟩; obtain ⟨hc2, hf2⟩ := hx2.rules)
  have hsz2 : w1.heap.size ≤ w2.heap.size := hx2.size
  have hb0 : w2.cell? ⟨w.heap.size, 0, none⟩ = some (.slice pa ps.length pcap) := hx2.cell (hx1.cell (by go_simp))
  have hb1 : w2.cell? ⟨w.heap.size, 1, none⟩ = some (.int .i64 layer) := hx2.cell (hx1.cell (by go_simp))
  clear hc1 hf1 hc2 hf2 hcb
  by_cases h : ps.length = 2
  · obtain ⟨b, off, rfl, hcc⟩ := hp3 (fun e => by simp [e] at h)
    have p0 : w2.cell? ⟨b, off, none⟩ = some (.int .i64 (ps[0]'(by omega))) := hx2.cell (hxw.cell (Reads.int_at (j := 0) hcc (by omega)))
    have p1 : w2.cell? ⟨b, off + 1, none⟩ = some (.int .i64 (ps[1]'(by omega))) := hx2.cell (hxw.cell (Reads.int_at (j := 1) hcc (by omega)))
    have hpe : ((ps[0]'(by omega) : Int) == ps[1]'(by omega)) = false := beq_eq_false_iff_ne.2 (HU.out h)
    generalize ps[0]'(by omega) = q0 at p0 hpe
    generalize ps[1]'(by omega) = q1 at p1 hpe
    clear hp3 hcc
    have hlen : ((ps.length : Int) == 2) = true := by rw [beq_iff_eq]; omega
    go_quiet (fail)
    go_wp2
    go_ret
    exact ⟨rfl, (hxw.trans hx2).drewN _⟩
  · have hlen : ((ps.length : Int) == 2) = false := by rw [beq_eq_false_iff_ne]; omega
    clear hp3
    go_quiet (fail)
    go_wp2
    go_ret
    exact ⟨rfl, (hxw.trans hx2).drewN _⟩


set_option maxHeartbeats 1600000 in
set_option maxRecDepth 100000 in
/-- Check: commits that are right. -/
theorem check_ok (v : Value) (cs : List Cm) (w : World) (hl : CommitsAt w v cs) (hok : okAll cs) (h60 : cs.length ≤ 60) :
    Calls Try.prog 82 #[v] w fun e w' => e = .returned (.tuple #[.int .i64 0, .nilIface]) ∧ Ext w w' := by
  have HL := Lib.hid hl
  obtain ⟨⟨a, cap, rfl, hcap, hmax, hcells⟩, hps⟩ := hl
  unfold maxLen at hmax
  have h60' : ¬ (60 < cs.length) := by omega
  go_enter Try.func82, Try.ntmps82
  go_wp2
  go_loopw [13] (fun jv wr => ∃ j : Nat, jv = .int .i64 j ∧ j ≤ cs.length ∧ Ext w wr) (fun jv _ => cs.length - (intOf jv).toNat)
  case atStart => exact ⟨0, rfl, Nat.zero_le _, Ext.refl _⟩
  case round =>
    obtain ⟨j, rfl, hj, hx⟩ := hrel
    by_cases hlt : j < cs.length
    · obtain ⟨b, off, rfl, hc⟩ := hcells (fun h => by simp [h] at hlt)
      obtain ⟨c0, c1, c2⟩ := Cm.cells hc hlt
      have d0 := hx.cell c0
      have d1 := hx.cell c1
      have d2 := hx.cell c2
      have hok1 := hok j hlt
      have hp1 := (hps j hlt).ext hx
      have HO := Lib.hid (And.intro hok1 hp1)
      clear hcells hc hps hok hok1 hp1 c0 c1 c2
      generalize cs[j] = c at d0 d1 d2 HO
      obtain ⟨pv, ps, layer, msg⟩ := c
      obtain ⟨pa, pcap, hpv, _⟩ := HO.out.2
      dsimp only at *
      subst hpv
      go_wp2_with (go_at_call 124; refine (commit_ok ⟨_, ps, layer, msg⟩ j _ HO.out.1 (HO.out.2.ext ((Ext.refl _).alloc _))).mono ?_; rintro e w1 ⟨rfl, hx1⟩)
      go_roundw
      case rel => exact ⟨j + 1, vi (by omega), hlt, (hx.alloc _).trans hx1⟩
      case measure => simp [intOf]; omega
    · clear hcells hps hok
      go_wp2
      go_ret2
      exact ⟨rfl, hx⟩

/-- the closure of ready: is a number out of range? -/
theorem ready1_any (W : World) (x : Int) (b n cap : Nat) (a : Option Addr) (hc : W.cell? ⟨b, 0, none⟩ = some (.slice a n cap)) :
    Calls Try.prog 84 #[.int .i64 x, .pointer (some ⟨b, 0, none⟩)] W fun e w' => e = .returned (.bool (decide (x < 0) || decide ((n : Int) ≤ x))) ∧ Ext W w' := by
  by_cases h : x < 0
  · go_enter Try.func84, Try.ntmps84
    go_wp2
    go_ret
    exact ⟨by simp [h], Ext.refl _⟩
  · go_enter Try.func84, Try.ntmps84
    go_wp2
    go_ret
    exact ⟨by simp [show ¬ x < 0 by omega], Ext.refl _⟩

set_option maxHeartbeats 1600000 in
/-- ready: commits that are right, numbers that are in range. -/
theorem ready_ok (v nv : Value) (cs : List Cm) (ns : List Int) (w : World) (hl : CommitsAt w v cs) (hok : okAll cs) (h60 : cs.length ≤ 60) (hn : Reads encI w nv ns) (hr : ∀ x ∈ ns, 0 ≤ x ∧ x < cs.length) :
    Calls Try.prog 35 #[v, nv] w fun e w' => e = .returned .nilIface ∧ Ext w w' := by
  have HL := Lib.hid hl
  obtain ⟨⟨a, cap, rfl, hcap, hmax, hcells⟩, hps⟩ := hl
  have hnone : (ns.any fun x => decide (x < 0) || decide ((cs.length : Int) ≤ x)) = false := by
    rw [List.any_eq_false]; intro x hx; have := hr x hx; simp; omega
  have HN := Lib.hid hnone
  clear hcells hps hr hnone
  go_enter Try.func35, Try.ntmps35
  go_wp2_with (go_at_call 82; refine (check_ok _ cs _ (HL.out.ext ((Ext.refl _).alloc _)) hok h60).mono ?_; rintro e w1 ⟨rfl, hx1⟩)
  have hb : w1.cell? ⟨w.heap.size, 0, none⟩ = some (.slice a cs.length cap) := hx1.cell (by go_simp)
  have hC := containsFunc_int nv ns w1 w1.heap.size 84 #[.pointer (some ⟨w.heap.size, 0, none⟩)] _ (hn.ext (((Ext.refl w).alloc _).trans hx1)) (Nat.le_refl _)
    ⟨Go.Proofs.enters_of Try.func84 (by kernel_rfl) rfl, fun W x _ hW => ready1_any W x w.heap.size cs.length cap a (Ext.cell hW hb)⟩
  rw [HN.out] at hC
  have HC := Lib.hid hC
  clear hC
  go_wp2_with (go_at_call 83; refine HC.out.mono ?_; rintro e w2 ⟨rfl, hx2⟩)
  go_ret
  exact ⟨rfl, (((Ext.refl w).alloc _).trans hx1).trans hx2⟩


/-- the closure of Base: is it below another one? -/
theorem base1_any (W : World) (x b : Nat) (S : Bool) (hc : W.cell? ⟨b, x, none⟩ = some (.bool S)) (hx : x < 60) :
    Calls Try.prog 85 #[.int .i64 x, .pointer (some ⟨b, 0, none⟩)] W fun e w' => e = .returned (.bool S) ∧ Ext W w' := by
  go_enter Try.func85, Try.ntmps85
  go_wp2
  go_ret
  exact ⟨rfl, Ext.refl _⟩

theorem orStep (old is ne : Bool) (f : Nat → Bool) (j : Nat) (S : Nat → Bool) (hf : f j = (is && ne)) (hS : S j = old) (v : Bool) (hv : v = (old || (is && ne))) :
    (fun t => if t = j then v else (S t || (decide (t < j) && f t))) = fun t => S t || (decide (t < j + 1) && f t) := by
  funext t
  by_cases e : t = j
  · subst e; simp [hf, hS, hv]
  · rw [if_neg e]
    by_cases hl : t < j
    · simp [hl, show t < j + 1 by omega]
    · simp [hl, show ¬ t < j + 1 by omega]

set_option maxHeartbeats 3200000 in
set_option maxRecDepth 1000000 in
/-- Base: the base commits of two. -/
theorem base_any (v : Value) (cs : List Cm) (a b : Nat) (w : World) (hl : CommitsAt w v cs) (ha : Ahead cs) (ha1 : a < cs.length) (hb1 : b < cs.length) (h60 : cs.length ≤ 60)
    (hin : ∀ j, anc cs a j = true → j < cs.length) :
    Calls Try.prog 38 #[v, .int .i64 a, .int .i64 b] w fun e w' =>
      ∃ v', e = .returned v' ∧ w'.ownsRow w.heap.size 3 1 v' (baseOf cs a b).length ((baseOf cs a b).flatMap encI) ∧ Ext w w' := by
  go_enter Try.func38, Try.ntmps38
  go_wp2_with fail
  refine (of_any v cs a w hl ha ha1 h60).mono ?_
  rintro e w1 ⟨x, rfl, _, hX1, hx1⟩
  go_wp2_with fail
  refine (of_any v cs b w1 (hl.ext hx1) ha hb1 h60).mono ?_
  rintro e w2 ⟨y, rfl, _, hY2, hx2⟩
  go_upto_region 3 with (fail)
  generalize hw3 : World.alloc (World.alloc w2 _) _ = w3
  have hx3 : Ext w2 w3 := by rw [← hw3]; exact ((Ext.refl _).alloc _).alloc _
  have hBo : Bools 60 w3 w2.heap.size (fun _ => false) := by rw [← hw3]; exact (bools_new 60 w2 _ _ rfl).ext ((Ext.refl _).alloc _)
  have hBe : Bools 60 w3 (w2.heap.size + 1) (fun _ => false) := by rw [← hw3, ← World.size_alloc w2]; exact bools_new 60 _ _ _ rfl
  have hs3 : w2.heap.size + 2 ≤ w3.heap.size := by rw [← hw3]; simp
  clear hw3
  have hX3 : Bools 60 w3 x (anc cs a) := hX1.ext (hx2.trans hx3)
  have hY3 : Bools 60 w3 y (anc cs b) := hY2.ext hx3
  have hxb : x < w2.heap.size := Nat.lt_of_lt_of_le (hX1.block (by omega)) hx2.size
  have hyb : y < w2.heap.size := hY2.block (by omega)
  have hx03 : Ext w w3 := (hx1.trans hx2).trans hx3
  have hsz0 : w.heap.size ≤ w2.heap.size := (hx1.trans hx2).size
  have HL := Lib.hid hl
  clear hX1 hY2 hl
  go_wp2
  go_loopw [22] (fun kv wr => ∃ k : Nat, kv = .int .i64 k ∧ k ≤ 60 ∧ Bools 60 wr w2.heap.size (fun j => decide (j < k) && both cs a b j) ∧ Bools 60 wr (w2.heap.size + 1) (fun _ => false) ∧ Below w2.heap.size w3 wr ∧ w3.heap.size ≤ wr.heap.size)
    (fun kv _ => 60 - (intOf kv).toNat)
  case atStart => exact ⟨0, rfl, by omega, hBo.congr (fun j _ => by simp), hBe, Below.refl _ _, Nat.le_refl _⟩
  case round =>
    obtain ⟨k, rfl, hk, hBok, hBek, hbw, hsw⟩ := hrel
    clear hBo hBe
    by_cases hlt : k < 60
    · have hXk := (hX3.below hbw hxb k hlt).1
      have hYk := (hY3.below hbw hyb k hlt).1
      have hok := (hBok k hlt).1
      have hof := (hBok k hlt).2
      have hset := fun v => hBok.set hlt v
      have hset2 := fun v => hBek.set_other (a := ⟨w2.heap.size, k, none⟩) (by simp) (.bool v)
      have hub : both cs a b k = (anc cs a k && anc cs b k) := rfl
      have HS := Lib.hid (And.intro hset (And.intro hset2 hub))
      clear hset hset2 hub hBok hBek hX3 hY3
      generalize hA : anc cs a k = A at hXk
      generalize hB : anc cs b k = Bb at hYk
      have HA := Lib.hid (And.intro hA hB)
      clear hA hB
      cases A <;> cases Bb
      all_goals
        go_wp2
        go_roundw
        case rel =>
          refine ⟨k + 1, vi (by omega), hlt, ?_, HS.out.2.1 _, Below.setCell hbw (Nat.le_refl _) _, by simpa [World.setCell] using hsw⟩
          have := HS.out.1 (anc cs a k && anc cs b k)
          rw [upto_step _ _ _ HS.out.2.2, HA.out.1, HA.out.2] at this
          exact this
        case measure => simp [intOf]; omega
    · have hk60 : k = 60 := by omega
      subst hk60
      have hBoth : Bools 60 wr w2.heap.size (both cs a b) := hBok.congr (fun j hj => by simp [hj])
      clear hBok hX3 hY3
      obtain ⟨wo, rfl⟩ : ∃ wo : World, wo = wr := ⟨_, rfl⟩
      go_wp2_with fail
      refine (list_any _ (both cs a b) wo hBoth).mono ?_
      rintro e w4 ⟨lv, rfl, hown, hx4⟩
      have hLm : ∀ z ∈ pick (both cs a b) 60, ∃ p : Nat, z = p ∧ p < cs.length ∧ p < 60 := fun z hz => by
        obtain ⟨p, hp1, hp2, hp3⟩ := pick_mem.1 hz
        exact ⟨p, hp3, hin p (by simp [both] at hp2; exact hp2.1), hp1⟩
      have hbo : baseOf cs a b = (pick (both cs a b) 60).filter fun i => !(belowOf cs (pick (both cs a b) 60) i.toNat) := rfl
      have HBO := Lib.hid hbo
      clear hbo
      rw [← flat_I] at hown
      have hplen := pick_le (both cs a b) 60
      have hlist2 := fun (W : World) (hW : Bools 60 W w2.heap.size (both cs a b)) => list_any w2.heap.size (both cs a b) W hW
      generalize pick (both cs a b) 60 = L at hown hLm HBO hplen hlist2
      obtain ⟨la, lcap, rfl, hlc1, hlc2, _⟩ := Reads.of_owns hown
      unfold maxLen at hlc2
      have HL2 := Lib.hid hlist2
      clear hlist2
      have hso : w2.heap.size + 2 ≤ wo.heap.size := by omega
      have hbw4 : Below w2.heap.size w3 w4 := Below.ext hbw hx4 (by omega)
      go_wp2
      go_loopw [42] (fun kv wr => ∃ k : Nat, kv = .int .i64 k ∧ k ≤ L.length ∧ Bools 60 wr w2.heap.size (both cs a b) ∧ Bools 60 wr (w2.heap.size + 1) (belowOf cs (L.take k)) ∧
          wr.ownsRow wo.heap.size 3 1 (.slice la L.length lcap) L.length (L.flatMap encI) ∧ Below w2.heap.size w3 wr ∧ wo.heap.size ≤ wr.heap.size)
        (fun kv _ => L.length - (intOf kv).toNat)
      case atStart => exact ⟨0, rfl, by omega, hBoth.ext hx4, (hBek.ext hx4).congr (fun j _ => by simp [belowOf]), hown, hbw4, hx4.size⟩
      case round =>
        obtain ⟨k, rfl, hk, hB1, hB2, hown2, hbw2, hsz2⟩ := hrel
        clear hBoth hBek hown hbw hbw4 hx4
        by_cases hlt : k < L.length
        · obtain ⟨p, hp, hpc, hp60⟩ := hLm L[k] (List.getElem_mem hlt)
          obtain ⟨_, _, hla, _, _, hne⟩ := Reads.of_owns hown2
          obtain ⟨g, off, hgo, hcc⟩ := hne (fun h => by simp [h] at hlt)
          cases hla
          subst hgo
          have hcx : wr.cell? ⟨g, off + k, none⟩ = some (.int .i64 p) := by rw [← hp]; exact Reads.int_at hcc hlt
          have htk : L.take (k + 1) = L.take k ++ [(p : Int)] := by rw [List.take_succ_eq_append_getElem hlt, hp]
          have HT := Lib.hid htk
          clear htk hp hcc hne
          go_wp2_with fail
          refine (of_any v cs p wr (HL.out.ext (Below.trans hx03 (Below.mono hbw2 hsz0))) ha hpc h60).mono ?_
          rintro e w5 ⟨z, rfl, hzb, hZ, hx5⟩
          have hB15 := hB1.ext hx5
          have hB25 := hB2.ext hx5
          have hown5 := own_ext hown2 hx5
          have hbw5 : Below w2.heap.size w3 w5 := Below.ext hbw2 hx5 (by omega)
          have hsz5 : wo.heap.size ≤ w5.heap.size := Nat.le_trans hsz2 hx5.size
          clear hB1 hB2 hown2 hbw2 hx5 hcx
          obtain ⟨wq, rfl⟩ : ∃ wq : World, wq = wr := ⟨_, rfl⟩
          go_wp2
          go_loopw [49] (fun jv wr => ∃ j : Nat, jv = .int .i64 j ∧ j ≤ 60 ∧ Bools 60 wr w2.heap.size (both cs a b) ∧
              Bools 60 wr (w2.heap.size + 1) (fun t => belowOf cs (L.take k) t || (decide (t < j) && (anc cs p t && (t : Int) != p))) ∧ Bools 60 wr z (anc cs p) ∧
              wr.ownsRow wo.heap.size 3 1 (.slice (some ⟨g, off, none⟩) L.length lcap) L.length (L.flatMap encI) ∧ Below w2.heap.size w3 wr ∧ wo.heap.size ≤ wr.heap.size)
            (fun jv _ => 60 - (intOf jv).toNat)
          case atStart => exact ⟨0, rfl, by omega, hB15, hB25.congr (fun j _ => by simp), hZ, hown5, hbw5, hsz5⟩
          case round =>
            obtain ⟨j, rfl, hj, hC1, hC2, hC3, hown6, hbw6, hsz6⟩ := hrel
            clear hB15 hB25 hZ hown5 hbw5
            by_cases hlj : j < 60
            · have hzj := (hC3 j hlj).1
              have hbj : wr.cell? ⟨w2.heap.size + 1, j, none⟩ = some (.bool (belowOf cs (L.take k) j)) := by have := (hC2 j hlj).1; simpa using this
              have hfj := (hC2 j hlj).2
              have hset := fun v => hC2.set hlj v
              have hs1 := fun v => hC1.set_other (a := ⟨w2.heap.size + 1, j, none⟩) (by simp) (.bool v)
              have hs3 := fun v => hC3.set_other (a := ⟨w2.heap.size + 1, j, none⟩) (by simp; omega) (.bool v)
              have hs6 := fun v => ownsRow_setCell_below hown6 (a := ⟨w2.heap.size + 1, j, none⟩) (by simp; omega) (.bool v)
              have hw6 := fun v q => Below.setCell (below_drewN hbw6 q) (p := ⟨w2.heap.size + 1, j, none⟩) (by simp) (.bool v)
              have HS := Lib.hid (And.intro hset (And.intro hs1 (And.intro hs3 (And.intro hs6 hw6))))
              clear hset hs1 hs3 hs6 hw6 hC1 hC2 hC3 hown6
              generalize hold : belowOf cs (L.take k) j = old at hbj
              generalize his : anc cs p j = is at hzj
              have HV := Lib.hid (And.intro hold his)
              clear hold his
              obtain ⟨ne, hne1, hne2⟩ : ∃ ne : Bool, ((j : Int) == (p : Int)) = !ne ∧ ((j : Int) != (p : Int)) = ne := ⟨((j : Int) != (p : Int)), by simp [bne], rfl⟩
              cases old <;> cases is <;> cases ne
              all_goals
                go_wp2
                go_quiet (fail)
                go_wp2
                go_roundw
                case rel =>
                  refine ⟨j + 1, vi (by omega), hlj, HS.out.2.1 _, ?_, HS.out.2.2.1 _, HS.out.2.2.2.1 _, HS.out.2.2.2.2 _ _, by simpa [World.setCell] using hsz6⟩
                  refine (HS.out.1 _).congr (fun t ht => ?_)
                  exact congrFun (orStep _ _ _ (fun t => anc cs p t && (t : Int) != p) j (belowOf cs (L.take k)) (by rw [HV.out.2, hne2]) HV.out.1 _ rfl) t
                case measure => simp [intOf]; omega
            · have hj60 : j = 60 := by omega
              subst hj60
              clear hC3
              go_wp2
              go_roundw
              case rel =>
                refine ⟨k + 1, vi (by omega), hlt, hC1, hC2.congr (fun t ht => ?_), hown6, hbw6, hsz6⟩
                rw [HT.out, belowOf_snoc]; simp [ht]
              case measure => simp [intOf]; omega
        · have hkL : k = L.length := by omega
          subst hkL
          rw [List.take_length] at hB2
          clear hown2
          go_wp2_with fail
          refine (HL2.out wr hB1).mono ?_
          rintro e w6 ⟨v2, rfl, hown6, hx6⟩
          rw [← flat_I] at hown6
          have hx06 : Ext w w6 := Ext.trans (Below.trans hx03 (Below.mono hbw2 hsz0)) hx6
          have hD := deleteFunc_int v2 L w6 wr.heap.size 85 #[.pointer (some ⟨w2.heap.size + 1, 0, none⟩)] (fun i => belowOf cs L i.toNat) hown6 hx6.size
            ⟨Go.Proofs.enters_of Try.func85 (by kernel_rfl) rfl, fun W z hz hW => by
              obtain ⟨p, rfl, _, hp60⟩ := hLm z hz
              have hc := (Below.cell hW (p := ⟨w2.heap.size + 1, p, none⟩) (by show w2.heap.size + 1 < wr.heap.size; omega)).trans (hx6.cell (hB2 p hp60).1)
              exact base1_any W p (w2.heap.size + 1) _ hc hp60⟩
          have HD := Lib.hid hD
          clear hD hB1 hB2 hown6
          go_wp2_with (go_at_call 51; refine HD.out.mono ?_; rintro e w7 ⟨v3, rfl, hown7, hbw7⟩)
          go_ret
          rw [HBO.out]
          have hszw : w.heap.size ≤ wr.heap.size := by omega
          exact ⟨_, rfl, own_mono hown7 hszw, Below.trans hx06 (Below.mono hbw7 hszw)⟩

set_option maxHeartbeats 800000 in
/-- Ancestors of a commit, of commits that are right. -/
theorem ancestors_ok (v : Value) (cs : List Cm) (i : Nat) (w : World) (hl : CommitsAt w v cs) (hok : okAll cs) (hi : i < cs.length) (h60 : cs.length ≤ 60) :
    Calls Try.prog 11 #[v, .int .i64 i] w fun e w' =>
      ∃ v', e = .returned (.tuple #[v', .nilIface]) ∧ w'.ownsRow w.heap.size 3 1 v' (pick (anc cs i) 60).length ((pick (anc cs i) 60).flatMap encI) ∧ Ext w w' := by
  go_enter Try.func11, Try.ntmps11
  go_wp2_with fail
  refine (ready_ok v _ cs [(i : Int)] _ (hl.ext ((Ext.refl _).alloc _)) hok h60 ⟨_, _, rfl, by simp, by simp [maxLen], fun _ => ⟨_, 0, rfl, fun t u ht => ?_⟩⟩ (by simp; omega)).mono ?_
  · match t, ht with
    | 0, ht => simp [encI] at ht; subst ht; go_simp
    | t + 1, ht => simp [encI] at ht
  rintro e w1 ⟨rfl, hx1⟩
  have hx01 : Ext w w1 := ((Ext.refl w).alloc _).trans hx1
  go_wp2_with fail
  refine (of_any v cs i w1 (hl.ext hx01) hok.ahead hi h60).mono ?_
  rintro e w2 ⟨b, rfl, _, hB, hx2⟩
  go_wp2_with fail
  refine (list_any b _ w2 hB).mono ?_
  rintro e w3 ⟨v', rfl, hown, hx3⟩
  rw [← flat_I] at hown
  go_wp2
  go_ret2
  exact ⟨_, rfl, own_mono hown (Nat.le_trans hx01.size hx2.size), (hx01.trans hx2).trans hx3⟩

set_option maxHeartbeats 800000 in
/-- Bases of two, of commits that are right. -/
theorem bases_ok (v : Value) (cs : List Cm) (a b : Nat) (w : World) (hl : CommitsAt w v cs) (hok : okAll cs) (ha : a < cs.length) (hb : b < cs.length) (h60 : cs.length ≤ 60)
    (hin : ∀ j, anc cs a j = true → j < cs.length) :
    Calls Try.prog 12 #[v, .int .i64 a, .int .i64 b] w fun e w' =>
      ∃ v', e = .returned (.tuple #[v', .nilIface]) ∧ w'.ownsRow w.heap.size 3 1 v' (baseOf cs a b).length ((baseOf cs a b).flatMap encI) ∧ Ext w w' := by
  go_enter Try.func12, Try.ntmps12
  go_wp2_with fail
  refine (ready_ok v _ cs [(a : Int), (b : Int)] _ (hl.ext ((Ext.refl _).alloc _)) hok h60 ⟨_, _, rfl, by simp, by simp [maxLen], fun _ => ⟨_, 0, rfl, fun t u ht => ?_⟩⟩ (by simp; omega)).mono ?_
  · match t, ht with
    | 0, ht => simp [encI] at ht; subst ht; go_simp
    | 1, ht => simp [encI] at ht; subst ht; go_simp
    | t + 2, ht => simp [encI] at ht
  rintro e w1 ⟨rfl, hx1⟩
  have hx01 : Ext w w1 := ((Ext.refl w).alloc _).trans hx1
  go_wp2_with fail
  refine (base_any v cs a b w1 (hl.ext hx01) hok.ahead ha hb h60 hin).mono ?_
  rintro e w2 ⟨v', rfl, hown, hx2⟩
  go_wp2
  go_ret2
  exact ⟨_, rfl, own_mono hown hx01.size, hx01.trans hx2⟩

end Go.Proofs.Ytommohepbpdmdaa
