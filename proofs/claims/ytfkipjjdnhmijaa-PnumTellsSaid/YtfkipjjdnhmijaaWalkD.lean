/- The walks of the four statements on packets' numbers: each returns true. Conditions: the numbers fit their kinds. -/
import Derived.Test.YtfkipjjdnhmijaaWalkC
namespace Go.Proofs.Ytfkipjjdnhmijaa
open Go.RowKit

theorem tells_walk (pn n l : Int) (w : World) (h0 : 0 ≤ pn) (h1 : pn ≤ 18446744073709551615) (hl0 : -9223372036854775808 ≤ l) (hl1 : l ≤ 9223372036854775807) :
    Calls Try.prog 3 #[.int .u64 pn, .int .i64 n, .int .i64 l] w fun e w' => e = .returned (.bool true) ∧ w = w' := by
  go_enter Try.func3, Try.ntmps3
  go_wp2_with fail
  refine (known_any _).mono ?_
  rintro e w' ⟨rfl, rfl⟩
  go_wp2_with fail
  refine (len_any _ _ _ h0 h1 hl1).mono ?_
  rintro e w' ⟨rfl, rfl⟩
  go_wp2_with fail
  refine (lenR_any _ _ _ h0 h1 hl1).mono ?_
  rintro e w' ⟨rfl, rfl⟩
  go_wp2_with fail
  refine (cut_any _ _ _ h0 h1).mono ?_
  rintro e w' ⟨rfl, rfl⟩
  go_wp2_with fail
  refine (cutR_any _ _ _ h0 h1).mono ?_
  rintro e w' ⟨rfl, rfl⟩
  go_wp2_with fail
  refine (full_any _ _ _ _ h0 h1 hl0 hl1).mono ?_
  rintro e w' ⟨rfl, rfl⟩
  go_wp2_with fail
  refine (fullR_any _ _ _ _ h0 h1 hl0 hl1).mono ?_
  rintro e w' ⟨rfl, rfl⟩
  go_wp2_with fail
  go_ret
  exact ⟨rfl, rfl⟩

theorem lenS_of (p A : Int) (hA : -1 ≤ A) (hA2 : A < p) (hp : p < 2305843009213693952) : lenS p A = lenD (p - A) := by
  unfold lenS
  split
  · rw [if_neg (by omega), show p + 1 = p - A from by omega]
  · rw [if_neg (by omega)]

theorem back_law (p A L : Int) (hp : 0 ≤ p) (hp2 : p < 2305843009213693952) (hA : -1 ≤ A) (hA2 : A < p) (hd : p - A < 2147483648) (hL : A ≤ L) (hL2 : L < p) :
    fullM (winN (lenS p A)) (p % winN (lenS p A)) (wantS L) = p := by
  rw [lenS_of p A hA hA2 hp2]
  have hw : wantS L = L + 1 := by unfold wantS; split <;> (try split) <;> omega
  rw [hw]
  unfold lenD
  split
  · rw [win1 (by decide)]; unfold fullM; split <;> (try split) <;> omega
  · split
    · rw [win2 (by decide)]; unfold fullM; split <;> (try split) <;> omega
    · split
      · rw [win3 (by decide)]; unfold fullM; split <;> (try split) <;> omega
      · rw [win4 (by decide)]; unfold fullM; split <;> (try split) <;> omega

theorem back_full (p A L : Int) (w : World) (hp : 0 ≤ p) (hp2 : p < 2305843009213693952) (hA : -1 ≤ A) (hA2 : A < p) (hd : p - A < 2147483648) (hL : A ≤ L) (hL2 : L < p) :
    Calls Try.prog 12 #[.int .u64 (p % winN (lenS p A)), .int .i64 (lenS p A), .int .i64 L] w fun e w' => e = .returned (.int .u64 p) ∧ w = w' := by
  have hb : 0 ≤ p % winN (lenS p A) ∧ p % winN (lenS p A) ≤ 18446744073709551615 := by
    rcases bytesN_cases (lenS p A) with h | h | h | h
    · rw [win1 h]; omega
    · rw [win2 h]; omega
    · rw [win3 h]; omega
    · rw [win4 h]; omega
  have h := full_any (p % winN (lenS p A)) (lenS p A) L w hb.1 hb.2 (by omega) (by omega)
  rw [back_law p A L hp hp2 hA hA2 hd hL hL2] at h
  exact h

theorem back_walk (a0 a1 a2 : Int) (w : World) (h0 : 0 ≤ a0) (h1 : a0 ≤ 18446744073709551615) (h2 : 0 ≤ a1) (h3 : a1 ≤ 4294967295) (h4 : 0 ≤ a2) (h5 : a2 ≤ 4294967295) :
    Calls Try.prog 4 #[.int .u64 a0, .int .u32 a1, .int .u32 a2] w fun e w' => e = .returned (.bool true) ∧ w = w' := by
  have hm := and61 a0 h0 h1
  obtain ⟨p, hp⟩ : ∃ p, bits .and .u64 a0 2305843009213693951 = p := ⟨_, rfl⟩
  have hp0 : 0 ≤ p := by omega
  have hp1 : p < 2305843009213693952 := by omega
  clear hm h0 h1
  rcases (show p < a1 ∨ a1 = p ∨ a1 < p from by omega) with h6 | h6 | h6
  · have hu : IntKind.u64.wrap (p - IntKind.u64.wrap (-1)) = p + 1 := by rw [IntKind.wrap_u64, IntKind.wrap_u64]; omega
    by_cases h7 : 2147483648 ≤ p + 1
    · go_enter Try.func4, Try.ntmps4
      go_wp2_with fail
      refine (known_any _).mono ?_
      rintro e w' ⟨rfl, rfl⟩
      go_wp2_with fail
      refine (len_any _ _ _ hp0 (by omega) (by omega)).mono ?_
      rintro e w' ⟨rfl, rfl⟩
      go_wp2_with fail
      go_ret
      exact ⟨rfl, rfl⟩
    · have hr := Int.emod_lt_of_pos a2 (show 0 < p + 1 from by omega)
      have hr2 := Int.emod_nonneg a2 (show p + 1 ≠ 0 from by omega)
      go_enter Try.func4, Try.ntmps4
      go_wp2_with fail
      refine (known_any _).mono ?_
      rintro e w' ⟨rfl, rfl⟩
      go_wp2_with fail
      refine (len_any _ _ _ hp0 (by omega) (by omega)).mono ?_
      rintro e w' ⟨rfl, rfl⟩
      go_wp2_with fail
      refine (cut_any _ _ _ hp0 (by omega)).mono ?_
      rintro e w' ⟨rfl, rfl⟩
      go_wp2_with fail
      refine (back_full p (-1) (-1 + a2 % (p + 1)) _ hp0 hp1 (by omega) (by omega) (by omega) (by omega) (by omega)).mono ?_
      rintro e w' ⟨rfl, rfl⟩
      go_wp2_with fail
      go_ret
      exact ⟨rfl, rfl⟩
  · subst h6
    have hu : IntKind.u64.wrap (a1 - IntKind.u64.wrap (-1)) = a1 + 1 := by rw [IntKind.wrap_u64, IntKind.wrap_u64]; omega
    by_cases h7 : 2147483648 ≤ a1 + 1
    · go_enter Try.func4, Try.ntmps4
      go_wp2_with fail
      refine (known_any _).mono ?_
      rintro e w' ⟨rfl, rfl⟩
      go_wp2_with fail
      refine (len_any _ _ _ hp0 (by omega) (by omega)).mono ?_
      rintro e w' ⟨rfl, rfl⟩
      go_wp2_with fail
      go_ret
      exact ⟨rfl, rfl⟩
    · have hr := Int.emod_lt_of_pos a2 (show 0 < a1 + 1 from by omega)
      have hr2 := Int.emod_nonneg a2 (show a1 + 1 ≠ 0 from by omega)
      go_enter Try.func4, Try.ntmps4
      go_wp2_with fail
      refine (known_any _).mono ?_
      rintro e w' ⟨rfl, rfl⟩
      go_wp2_with fail
      refine (len_any _ _ _ hp0 (by omega) (by omega)).mono ?_
      rintro e w' ⟨rfl, rfl⟩
      go_wp2_with fail
      refine (cut_any _ _ _ hp0 (by omega)).mono ?_
      rintro e w' ⟨rfl, rfl⟩
      go_wp2_with fail
      refine (back_full a1 (-1) (-1 + a2 % (a1 + 1)) _ hp0 hp1 (by omega) (by omega) (by omega) (by omega) (by omega)).mono ?_
      rintro e w' ⟨rfl, rfl⟩
      go_wp2_with fail
      go_ret
      exact ⟨rfl, rfl⟩
  · obtain ⟨A, hA⟩ : ∃ A, p - a1 - 1 = A := ⟨_, rfl⟩
    have hA0 : 0 ≤ A := by omega
    have hA1 : A < p := by omega
    by_cases h7 : 2147483648 ≤ p - A
    · go_enter Try.func4, Try.ntmps4
      go_wp2_with fail
      refine (known_any _).mono ?_
      rintro e w' ⟨rfl, rfl⟩
      go_wp2_with fail
      refine (len_any _ _ _ hp0 (by omega) (by omega)).mono ?_
      rintro e w' ⟨rfl, rfl⟩
      go_wp2_with fail
      go_ret
      exact ⟨rfl, rfl⟩
    · have hr := Int.emod_lt_of_pos a2 (show 0 < p - A from by omega)
      have hr2 := Int.emod_nonneg a2 (show p - A ≠ 0 from by omega)
      go_enter Try.func4, Try.ntmps4
      go_wp2_with fail
      refine (known_any _).mono ?_
      rintro e w' ⟨rfl, rfl⟩
      go_wp2_with fail
      refine (len_any _ _ _ hp0 (by omega) (by omega)).mono ?_
      rintro e w' ⟨rfl, rfl⟩
      go_wp2_with fail
      refine (cut_any _ _ _ hp0 (by omega)).mono ?_
      rintro e w' ⟨rfl, rfl⟩
      go_wp2_with fail
      refine (back_full p A (A + a2 % (p - A)) _ hp0 hp1 (by omega) (by omega) (by omega) (by omega) (by omega)).mono ?_
      rintro e w' ⟨rfl, rfl⟩
      go_wp2_with fail
      go_ret
      exact ⟨rfl, rfl⟩

/-- What 'Full' of any cut number comes to, where the awaited number is l + 1. -/
theorem near_law (m c l X : Int) (hm : m = 256 ∨ m = 65536 ∨ m = 16777216 ∨ m = 4294967296) (hl : 0 ≤ l) (hl2 : l ≤ 4294967295) (hX : fullM m c (l + 1) = X) :
    0 ≤ X ∧ X ≤ 18446744073709551615 ∧ X % m = c % m ∧ ((X ≤ l + 1 ∧ l + 1 - X ≤ m / 2) ∨ (l + 1 < X ∧ X - (l + 1) ≤ m / 2) ∨ (l + 1 < m / 2 ∧ X < m)) := by
  subst hX
  rcases hm with rfl | rfl | rfl | rfl <;> (unfold fullM; split <;> (try split) <;> omega)
end Go.Proofs.Ytfkipjjdnhmijaa
