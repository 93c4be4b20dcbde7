/- The walk of the example. Conditions: none. -/
import Derived.Test.YthnokfchebmjiaaLa
namespace Go.Proofs.Ythnokfchebmjiaa
open Go.RowKit

/-- A ledger to which the packets below k were sent, all alike. -/
def runL (t s : Nat) : Nat → Ldg
  | 0 => led0
  | k + 1 => sentS (runL t s k) ⟨k, t, s, true⟩
theorem runL_last (t s k : Nat) : (runL t s k).last = (k : Int) - 1 := by
  cases k with
  | zero => rfl
  | succ k =>
    show (k : Int) = _
    omega
theorem runL_tot (t s k : Nat) : (runL t s k).tot = k := by
  induction k with
  | zero => rfl
  | succ k ih => show (runL t s k).tot + 1 = _; rw [ih]
theorem runL_fine (t s k : Nat) (hk : k < 100000) : sendBad (runL t s k) ⟨k, t, s, true⟩ = false := by
  unfold sendBad mx
  rw [runL_last]
  simp
  omega
theorem ex_4 : runL 1 10 4 = ⟨[⟨0, 1, 10, true⟩, ⟨1, 1, 10, true⟩, ⟨2, 1, 10, true⟩, ⟨3, 1, 10, true⟩], [(0, 3)], 3, -1, false, 10, 5, 0, 10, 4⟩ := by rfl
theorem ex_bad : ackBad ⟨[⟨0, 1, 10, true⟩, ⟨1, 1, 10, true⟩, ⟨2, 1, 10, true⟩, ⟨3, 1, 10, true⟩], [(0, 3)], 3, -1, false, 10, 5, 0, 10, 4⟩ [(3, 3)] = false := by rfl
theorem ex_gone : pns (goneA ⟨[⟨0, 1, 10, true⟩, ⟨1, 1, 10, true⟩, ⟨2, 1, 10, true⟩, ⟨3, 1, 10, true⟩], [(0, 3)], 3, -1, false, 10, 5, 0, 10, 4⟩ [(3, 3)]) = [3] := by rfl
theorem ex_ack : ackS ⟨[⟨0, 1, 10, true⟩, ⟨1, 1, 10, true⟩, ⟨2, 1, 10, true⟩, ⟨3, 1, 10, true⟩], [(0, 3)], 3, -1, false, 10, 5, 0, 10, 4⟩ [(3, 3)] 11 0 = ⟨[⟨0, 1, 10, true⟩, ⟨1, 1, 10, true⟩, ⟨2, 1, 10, true⟩], [(0, 3)], 3, 3, true, 10, 5, 10, 10, 4⟩ := by rfl
theorem ex_lost : lostL ⟨[⟨0, 1, 10, true⟩, ⟨1, 1, 10, true⟩, ⟨2, 1, 10, true⟩], [(0, 3)], 3, 3, true, 10, 5, 10, 10, 4⟩ 11 = [⟨0, 1, 10, true⟩] := by rfl
theorem ex_lostS : lostS ⟨[⟨0, 1, 10, true⟩, ⟨1, 1, 10, true⟩, ⟨2, 1, 10, true⟩], [(0, 3)], 3, 3, true, 10, 5, 10, 10, 4⟩ 11 = ⟨[⟨1, 1, 10, true⟩, ⟨2, 1, 10, true⟩], [(0, 3)], 3, 3, true, 10, 5, 10, 10, 4⟩ := by rfl
theorem ex_far : ackBad ⟨[⟨1, 1, 10, true⟩, ⟨2, 1, 10, true⟩], [(0, 3)], 3, 3, true, 10, 5, 10, 10, 4⟩ [(9, 9)] = true := by rfl
theorem ex_flight : flight (Ldg.opens ⟨[⟨1, 1, 10, true⟩, ⟨2, 1, 10, true⟩], [(0, 3)], 3, 3, true, 10, 5, 10, 10, 4⟩) = 20 := by rfl
theorem ex_open : pns (Ldg.opens ⟨[⟨1, 1, 10, true⟩, ⟨2, 1, 10, true⟩], [(0, 3)], 3, 3, true, 10, 5, 10, 10, 4⟩) = [1, 2] := by rfl
theorem ex_again : sendBad ⟨[⟨1, 1, 10, true⟩, ⟨2, 1, 10, true⟩], [(0, 3)], 3, 3, true, 10, 5, 10, 10, 4⟩ ⟨3, 0, 0, false⟩ = true := by rfl

theorem one_rng (w : World) (a b : Nat) : Rd (w.alloc (.cells #[.int .u64 (a : Int), .int .u64 (b : Int)] 35)) 2 (.slice (some ⟨w.heap.size, 0, none⟩) [(a, b)].length 1) [(a, b)].length (cr [(a, b)]) := Rd.new w (a, b)
theorem one_num (w : World) (l : List Nat) : Rd (w.alloc (.cells (us l).toArray 28)) 1 (.slice (some ⟨w.heap.size, 0, none⟩) l.length l.length) l.length (us l) := by
  refine ⟨by simp [us], .inr ⟨_, 0, l.length, rfl, Nat.le_refl _, fun _ => by simp, fun j hj => ?_⟩⟩
  have := (IsBlk.new w (us l) 28).cell j
  rw [Nat.zero_add]
  exact this
set_option maxHeartbeats 4000000 in
set_option maxRecDepth 100000 in
theorem known_any (w : World) : Calls Try.prog 7 #[] w fun e w' => e = .returned (.bool true) ∧ Touch [] w w' := by
  go_enter Try.func7, Try.ntmps7
  go_wp2_with fail
  refine (at_new w _ (Touch.refl _ _)).mono ?_
  rintro e w1 ⟨p, rfl, h⟩
  have A1 := Lib.hid h
  clear h
  go_wp2_with fail
  go_loopw [2] (fun i wr => ∃ k : Nat, k ≤ 4 ∧ i = .int .u64 (k : Int) ∧ Hid (AtL w wr p (runL 1 10 k) [])) (fun i _ => 4 - (intOf i).toNat)
  case atStart => exact ⟨0, by omega, rfl, A1⟩
  case round =>
    obtain ⟨k, hk, rfl, HA⟩ := hrel
    by_cases hlt : k < 4
    · have hlt' : (k : Int) < 4 := by omega
      go_wp2_with fail
      refine (show Calls Try.prog 10 #[.pointer (some ⟨p, 0, none⟩), .agg #[.int .u64 (k : Int), .int .u64 1, .int .i64 10, .bool true]] wr _ from at_send HA.out ⟨k, 1, 10, true⟩ ⟨by show k < _; omega, by show 1 < _; decide, by show 10 < _; decide⟩ (by show 1 ≤ _; decide) (by show 10 ≤ _; decide) (by rw [runL_tot]; omega)).mono ?_
      rw [runL_fine 1 10 k (by omega)]
      rintro e w2 ⟨rfl, h⟩
      have A2 : Hid (AtL w w2 p (runL 1 10 (k + 1)) []) := Lib.hid h
      clear h
      go_wp2_with fail
      go_roundw
      case rel => exact ⟨k + 1, by omega, by go_num, A2⟩
      case measure => simp [intOf]; omega
    · obtain rfl : k = 4 := by omega
      rw [ex_4] at HA
      go_wp2_with fail
      refine (at_ack HA.out ((Touch.refl _ _).alloc _) _ 1 [(3, 3)] 11 0 (one_rng wr 3 3) (fun g hg => by simp [own] at hg ⊢; omega) (by decide) ex_bad (by decide) (by decide)).mono ?_
      rw [ex_ack, ex_gone, ex_lost, ex_lostS]
      rintro e w2 ⟨v1, v2, rfl, h, r1, r2, r3⟩
      obtain ⟨a1, c1, rfl, _⟩ := r1.form
      obtain ⟨a2, c2, rfl⟩ := r2.form
      have A2 := Lib.hid h
      clear h r1 r2 r3
      go_wp2_with fail
      refine (at_bad A2.out ((Touch.refl _ _).alloc _) _ 1 [(9, 9)] 11 0 (one_rng w2 9 9) (by decide) ex_far).mono ?_
      rintro e w3 ⟨rfl, h⟩
      have A3 := Lib.hid h
      clear h
      go_wp2_with fail
      refine (at_rtt A3.out).mono ?_
      rintro e w4 ⟨rfl, h⟩
      have A4 := Lib.hid h
      clear h
      go_wp2_with fail
      refine (nums_any _ a1 _ _ _ c1 _ [3] [3] ((A4.out.keep ((Touch.refl _ _).alloc _)).rd (d := (_, [3])) (by simp)) (one_num w4 [3]) rfl rfl (by decide)).mono ?_
      rintro e w5 ⟨rfl, h⟩
      have A5 := Lib.hid ((A4.out.keep ((Touch.refl _ _).alloc _)).keep h)
      clear h
      rw [show decide ([3] = [3]) = true from rfl]
      go_wp2_with fail
      refine (nums_any _ a2 _ _ _ c2 _ [0] [0] ((A5.out.keep ((Touch.refl _ _).alloc _)).rd (d := (_, [0])) (by simp [pns])) (one_num w5 [0]) rfl rfl (by decide)).mono ?_
      rintro e w6 ⟨rfl, h⟩
      have A6 := Lib.hid ((A5.out.keep ((Touch.refl _ _).alloc _)).keep h)
      clear h
      rw [show decide ([0] = [0]) = true from rfl]
      go_wp2_with fail
      refine (at_flight A6.out).mono ?_
      rw [ex_flight]
      rintro e w7 ⟨rfl, h⟩
      have A7 := Lib.hid h
      clear h
      go_wp2_with fail
      refine (at_largest A7.out).mono ?_
      rintro e w8 ⟨rfl, h⟩
      have A8 := Lib.hid h
      clear h
      go_wp2_with fail
      refine (at_open A8.out).mono ?_
      rw [ex_open]
      rintro e w9 ⟨v3, rfl, h, r1⟩
      obtain ⟨a3, c3, rfl⟩ := r1.form
      have A9 := Lib.hid h
      clear h r1
      go_wp2_with fail
      refine (nums_any _ a3 _ _ _ c3 _ [1, 2] [1, 2] ((A9.out.keep ((Touch.refl _ _).alloc _)).rd (d := (_, [1, 2])) (by simp)) (one_num w9 [1, 2]) rfl rfl (by decide)).mono ?_
      rintro e w10 ⟨rfl, h⟩
      have A10 := Lib.hid ((A9.out.keep ((Touch.refl _ _).alloc _)).keep h)
      clear h
      rw [show decide ([1, 2] = [1, 2]) = true from rfl]
      go_wp2_with fail
      refine (show Calls Try.prog 10 #[.pointer (some ⟨p, 0, none⟩), .agg #[.int .u64 3, .int .u64 0, .int .i64 0, .bool false]] w10 _ from at_send A10.out ⟨3, 0, 0, false⟩ ⟨by show 3 < _; decide, by show 0 < _; decide, by show 0 < _; decide⟩ (by show 0 ≤ _; decide) (by show 0 ≤ _; decide) (by decide)).mono ?_
      rw [ex_again]
      rintro e w11 ⟨rfl, h⟩
      have A11 := Lib.hid h
      clear h
      go_wp2_with fail
      go_ret
      exact ⟨rfl, A11.out.touch⟩
end Go.Proofs.Ythnokfchebmjiaa
