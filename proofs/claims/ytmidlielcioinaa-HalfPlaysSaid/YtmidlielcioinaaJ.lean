/- The contracts of Kind and Nth. Conditions: none. -/
import Derived.Test.YtmidlielcioinaaI
import Derived.Laws.BitsAllLaws
namespace Go.Proofs.Ytmidlielcioinaa
open Go.RowKit

theorem and1 (x : Nat) (h : x < 18446744073709551616) : bits .and .u64 (x : Int) 1 = ((x % 2 : Nat) : Int) := by
  have := u64_and_nat x 1 h (by omega)
  rw [Nat.and_one_is_mod] at this
  exact this
theorem and2 (x : Nat) (h : x < 18446744073709551616) : bits .and .u64 (x : Int) 2 = ((2 * (x / 2 % 2) : Nat) : Int) := by
  have := u64_and_nat x 2 h (by omega)
  have e : x &&& 2 = 2 * (x / 2 % 2) := by
    obtain ⟨b, hb⟩ : ∃ b, b = x / 2 % 2 := ⟨_, rfl⟩
    have hb2 : b < 2 := by omega
    rw [← hb]
    refine Nat.eq_of_testBit_eq fun i => ?_
    rw [Nat.testBit_and]
    match i with
    | 0 => simp [Nat.testBit_zero]
    | 1 =>
      rw [Nat.testBit_succ, Nat.testBit_succ, Nat.testBit_succ, Nat.testBit_zero, Nat.testBit_zero, Nat.testBit_zero, ← hb, show 2 * b / 2 = b from by omega, Nat.mod_eq_of_lt hb2]
      simp
    | i + 2 =>
      rw [Nat.testBit_succ, Nat.testBit_succ, Nat.testBit_succ, Nat.testBit_succ, Nat.testBit_succ, Nat.testBit_succ, show 2 * b / 2 / 2 = 0 from by omega]
      simp
  rw [e] at this
  exact this
theorem or1 (m : Nat) (h : m < 1152921504606846976) : bits .or .u64 ((m : Int) * 4) 1 = (m : Int) * 4 + 1 := by
  have := u64_or_nat (m * 4) 1 (by omega) (by omega)
  have e : m * 4 ||| 1 = m * 4 + 1 := by
    have : 4 * m + 1 = 4 * m ||| 1 := Nat.two_pow_add_eq_or_of_lt (i := 2) (b := 1) (by omega) m
    rw [Nat.mul_comm m 4]
    omega
  rw [e] at this
  simpa using this
theorem or2 (m : Nat) (h : m < 1152921504606846976) : bits .or .u64 ((m : Int) * 4) 2 = (m : Int) * 4 + 2 := by
  have := u64_or_nat (m * 4) 2 (by omega) (by omega)
  have e : m * 4 ||| 2 = m * 4 + 2 := by
    have : 4 * m + 2 = 4 * m ||| 2 := Nat.two_pow_add_eq_or_of_lt (i := 2) (b := 2) (by omega) m
    rw [Nat.mul_comm m 4]
    omega
  rw [e] at this
  simpa using this
theorem or3 (m : Nat) (h : m < 1152921504606846976) : bits .or .u64 ((m : Int) * 4 + 1) 2 = (m : Int) * 4 + 1 + 2 := by
  have := u64_or_nat (m * 4 + 1) 2 (by omega) (by omega)
  have e : m * 4 + 1 ||| 2 = m * 4 + 3 := by
    have h1 := Nat.two_pow_add_eq_or_of_lt (i := 2) (b := 1) (by omega) m
    have h3 := Nat.two_pow_add_eq_or_of_lt (i := 2) (b := 3) (by omega) m
    have e1 : m * 4 + 1 = 2 ^ 2 * m ||| 1 := by omega
    have e3 : m * 4 + 3 = 2 ^ 2 * m ||| 3 := by omega
    rw [e1, e3, Nat.or_assoc, show (1 ||| 2 : Nat) = 3 from rfl]
  rw [e] at this
  simp at this
  rw [this]
  omega
theorem kind_any (w : World) (id : Nat) (h : id < 18446744073709551616) : Calls Try.prog 16 #[.int .u64 (id : Int)] w fun e w' => e = .returned (.tuple #[.bool (decide (id % 2 = 1)), .bool (decide (id / 2 % 2 = 1))]) ∧ w' = w := by
  have e1 := and1 id h
  have e2 := and2 id h
  obtain ⟨a, ha⟩ : ∃ a, a = id % 2 := ⟨_, rfl⟩
  obtain ⟨b, hb⟩ : ∃ b, b = id / 2 % 2 := ⟨_, rfl⟩
  rw [← ha] at e1 ⊢
  rw [← hb] at e2 ⊢
  have ha2 : a < 2 := by omega
  have hb2 : b < 2 := by omega
  clear ha hb
  go_enter Try.func16, Try.ntmps16
  go_wp2_with fail
  go_ret2
  refine ⟨?_, rfl⟩
  have h1 : ((a : Int) != 0) = decide (a = 1) := by
    rcases Nat.lt_or_ge a 1 with h | h
    · obtain rfl : a = 0 := by omega
      rfl
    · obtain rfl : a = 1 := by omega
      rfl
  have h2 : (((2 * b : Nat) : Int) != 0) = decide (b = 1) := by
    rcases Nat.lt_or_ge b 1 with h | h
    · obtain rfl : b = 0 := by omega
      rfl
    · obtain rfl : b = 1 := by omega
      rfl
  rw [← h1, ← h2]
  rfl
def nthV (n : Nat) (s u : Bool) : Nat := min n 1152921504606846975 * 4 + (if s then 1 else 0) + (if u then 2 else 0)
theorem nth_any (w : World) (n : Nat) (s u : Bool) : Calls Try.prog 15 #[.int .u64 (n : Int), .bool s, .bool u] w fun e w' => e = .returned (.int .u64 (nthV n s u : Int)) ∧ w' = w := by
  obtain ⟨m, hm⟩ : ∃ m, m = min n 1152921504606846975 := ⟨_, rfl⟩
  have e0 : min (n : Int) 1152921504606846975 = (m : Int) := by omega
  have hml : m < 1152921504606846976 := by omega
  have e1 := or1 m hml
  have e2 := or2 m hml
  have e3 := or3 m hml
  unfold nthV
  rw [← hm]
  clear hm
  cases s <;> cases u
  all_goals
    go_enter Try.func15, Try.ntmps15
    go_wp2_with fail
    go_ret
    exact ⟨ret_i (by simp), rfl⟩
theorem refNth_any (w : World) (n : Nat) (s u : Bool) : Calls Try.prog 17 #[.int .u64 (n : Int), .bool s, .bool u] w fun e w' => e = .returned (.int .u64 (nthV n s u : Int)) ∧ w' = w := by
  obtain ⟨m, hm⟩ : ∃ m, m = min n 1152921504606846975 := ⟨_, rfl⟩
  have e0 : min (n : Int) 1152921504606846975 = (m : Int) := by omega
  have hml : m < 1152921504606846976 := by omega
  have e1 := or1 m hml
  have e2 := or2 m hml
  have e3 := or3 m hml
  unfold nthV
  rw [← hm]
  clear hm
  cases s <;> cases u
  all_goals
    go_enter Try.func17, Try.ntmps17
    go_wp2_with fail
    go_ret
    exact ⟨ret_i (by simp), rfl⟩
end Go.Proofs.Ytmidlielcioinaa
