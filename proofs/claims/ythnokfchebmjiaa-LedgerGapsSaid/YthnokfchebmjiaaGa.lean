/- The walk of LedgerGaps. Conditions: none. -/
import Derived.Test.YthnokfchebmjiaaLb
namespace Go.Proofs.Ythnokfchebmjiaa
open Go.RowKit

theorem gp_bad : ∀ c < 12, ∀ t < c, ackBad (runL 100 1 c) [(t, t)] = false := by decide +kernel
theorem gp_gone : ∀ c < 12, ∀ t < c, pns (goneA (runL 100 1 c) [(t, t)]) = [t] := by decide +kernel
theorem gp_lost : ∀ c < 12, ∀ t < c, (pns (lostL (ackS (runL 100 1 c) [(t, t)] 108 0) 108)).length = t - 2 := by decide +kernel
theorem gp_tick : ∀ c < 12, ∀ t < c, ∀ x < 3, (pns (lostL (lostS (ackS (runL 100 1 c) [(t, t)] 108 0) 108) (108 + x))).length = if x = 0 then 0 else min t 2 := by decide +kernel

set_option maxHeartbeats 4000000 in
set_option maxRecDepth 100000 in
theorem gaps_walk (n k wt : Nat) (hn : n ≤ 255) (hk : k ≤ 255) (hwt : wt ≤ 255) (w : World) : Calls Try.prog 6 #[.int .u8 (n : Int), .int .u8 (k : Int), .int .u8 (wt : Int)] w fun e w' => e = .returned (.bool true) ∧ Touch [] w w' := by
  obtain ⟨m, hm⟩ : ∃ m, m = n % 10 := ⟨_, rfl⟩
  obtain ⟨c, hc⟩ : ∃ c, c = m + 2 := ⟨_, rfl⟩
  obtain ⟨t, ht⟩ : ∃ t, t = k % c := ⟨_, rfl⟩
  obtain ⟨x, hx⟩ : ∃ x, x = wt % 3 := ⟨_, rfl⟩
  have htc : t < c := by rw [ht]; exact Nat.mod_lt _ (by omega)
  have hx3 : x < 3 := by omega
  have hc1 : c < 12 := by omega
  have i1 : (n : Int) % 10 = (m : Int) := by omega
  have i2 : (k : Int) % (c : Int) = (t : Int) := by rw [ht, Int.natCast_emod]
  have i3 : (wt : Int) % 3 = (x : Int) := by omega
  have i4 : (m : Int) + 2 = (c : Int) := by omega
  have hc0 : ((c : Int) == 0) = false := beq_eq_false_iff_ne.2 (by omega)
  have HC := Lib.hid hc
  have HT := Lib.hid ht
  have HX := Lib.hid hx
  have HM := Lib.hid hm
  clear hc ht hx hm
  go_enter Try.func6, Try.ntmps6
  go_wp2_with fail
  refine (known_any w).mono ?_
  rintro e w0 ⟨rfl, hT0⟩
  have HT0 := Lib.hid hT0
  clear hT0
  go_wp2_with fail
  refine (at_new w _ HT0.out).mono ?_
  rintro e w1 ⟨p, rfl, h⟩
  have A1 := Lib.hid h
  clear h
  go_wp2_with fail
  go_loopw [10] (fun i wr => ∃ k : Nat, k ≤ c ∧ i = .int .u64 (k : Int) ∧ Hid (AtL w wr p (runL 100 1 k) [])) (fun i _ => c - (intOf i).toNat)
  case atStart => exact ⟨0, by omega, rfl, A1⟩
  case round =>
    obtain ⟨j, hj, rfl, HA⟩ := hrel
    by_cases hlt : j < c
    · have hlt' : (j : Int) < (c : Int) := by omega
      go_wp2_with fail
      refine (show Calls Try.prog 10 #[.pointer (some ⟨p, 0, none⟩), .agg #[.int .u64 (j : Int), .int .u64 100, .int .i64 1, .bool true]] wr _ from at_send HA.out ⟨j, 100, 1, true⟩ ⟨by show j < _; omega, by show 100 < _; decide, by show 1 < _; decide⟩ (by show 100 ≤ _; decide) (by show 1 ≤ _; decide) (by rw [runL_tot]; omega)).mono ?_
      rw [runL_fine 100 1 j (by omega)]
      rintro e w2 ⟨rfl, h⟩
      have A2 : Hid (AtL w w2 p (runL 100 1 (j + 1)) []) := Lib.hid h
      clear h
      go_wp2_with fail
      go_roundw
      case rel => exact ⟨j + 1, by omega, by go_num, A2⟩
      case measure => simp [intOf]; omega
    · obtain rfl : j = c := by omega
      go_wp2_with fail
      refine (at_ack HA.out ((Touch.refl _ _).alloc _) _ 1 [(t, t)] 108 0 (one_rng wr t t) (fun g hg => by simp [own] at hg ⊢; omega) (by simp) (gp_bad j hc1 t htc) (by decide) (by decide)).mono ?_
      rw [gp_gone j hc1 t htc]
      have hll := gp_lost j hc1 t htc
      have hlt := gp_tick j hc1 t htc x hx3
      generalize ackS (runL 100 1 j) [(t, t)] 108 0 = σ1 at hll hlt ⊢
      generalize hl2 : pns (lostL σ1 108) = l2 at hll ⊢
      rintro e w2 ⟨v1, v2, rfl, h, r1, r2, r3⟩
      rw [hll] at r2
      obtain ⟨a1, c1, rfl, _⟩ := r1.form
      obtain ⟨a2, c2, rfl⟩ := r2.form
      have A2 := Lib.hid h
      have HLT := Lib.hid hlt
      clear h r1 r2 r3 hll hlt hl2
      go_wp2_with fail
      refine (nums_any _ a1 _ _ _ c1 _ [t] [t] ((A2.out.keep ((Touch.refl _ _).alloc _)).rd (d := (_, [t])) (by simp)) (one_num w2 [t]) rfl rfl (by decide)).mono ?_
      rw [show decide ([t] = [t]) = true from decide_eq_true rfl]
      rintro e w3 ⟨rfl, h⟩
      have A3 := Lib.hid ((A2.out.keep ((Touch.refl _ _).alloc _)).keep h)
      clear h
      have hmx : max ((t : Int) - 2) 0 = ((t - 2 : Nat) : Int) := by omega
      go_wp2_with fail
      refine (show Calls Try.prog 20 #[.pointer (some ⟨p, 0, none⟩), .int .u64 (108 + (x : Int))] w3 _ from at_tick A3.out (108 + x) (by omega)).mono ?_
      have hlt := HLT.out
      generalize pns (lostL (lostS σ1 108) (108 + x)) = l3 at hlt ⊢
      rintro e w4 ⟨v3, rfl, h, r1⟩
      rw [hlt] at r1
      obtain ⟨a3, c3, rfl⟩ := r1.form
      have HTE := Lib.hid h.touch
      clear h r1 hlt
      cases x with
      | zero =>
        rw [if_pos rfl]
        have hx0 : (((0 : Nat) : Int) == 0) = true := by simp
        go_wp2_with fail
        go_ret
        exact ⟨rfl, HTE.out⟩
      | succ y =>
        rw [if_neg (by omega)]
        have hx0 : (((y + 1 : Nat) : Int) == 0) = false := by simp; omega
        have hmn : min (t : Int) 2 = ((min t 2 : Nat) : Int) := by omega
        go_wp2_with fail
        go_ret
        exact ⟨rfl, HTE.out⟩
end Go.Proofs.Ythnokfchebmjiaa
