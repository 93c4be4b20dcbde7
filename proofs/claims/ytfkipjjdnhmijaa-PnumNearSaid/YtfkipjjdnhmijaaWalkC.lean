/- The walks of 'Len', the program's and the document's, of the example that all the statements ask ('known'). Conditions: the numbers fit their kinds. -/
import Derived.Test.YtfkipjjdnhmijaaWalkB
namespace Go.Proofs.Ytfkipjjdnhmijaa
open Go.RowKit

theorem len_neg (pn acked : Int) (w : World) (hp : 0 ≤ pn) (hp2 : pn ≤ 18446744073709551614) (h : acked < 0) : Calls Try.prog 8 #[.int .u64 pn, .int .i64 acked] w fun e w' => e = .returned (.int .i64 (lenD (pn + 1))) ∧ w = w' := by
  have hz : (pn + 1 == 0) = false := by rw [beq_eq_false_iff_ne]; omega
  obtain ⟨r, hr⟩ : ∃ r, lenD (pn + 1) = r := ⟨_, rfl⟩
  rw [hr]
  have HR := Lib.hid hr
  clear hr
  go_enter Try.func8, Try.ntmps8
  go_wp2
  refine wp_loop_rounds 4 ?_
  iterate 4 (all_goals (try (rw [rounds_succ]; go_wp2)))
  all_goals
    go_ret
    exact ⟨ret_of (by rw [← HR.out]; unfold lenD; split <;> (try split) <;> (try split) <;> omega), rfl⟩

theorem len_pos (pn acked : Int) (w : World) (hp : 0 ≤ pn) (hp2 : pn ≤ 18446744073709551615) (h : 0 ≤ acked) (h2 : acked ≤ 9223372036854775807) (h3 : acked < pn) : Calls Try.prog 8 #[.int .u64 pn, .int .i64 acked] w fun e w' => e = .returned (.int .i64 (lenD (pn - acked))) ∧ w = w' := by
  obtain ⟨r, hr⟩ : ∃ r, lenD (pn - acked) = r := ⟨_, rfl⟩
  rw [hr]
  have HR := Lib.hid hr
  clear hr
  go_enter Try.func8, Try.ntmps8
  go_wp2
  refine wp_loop_rounds 4 ?_
  iterate 4 (all_goals (try (rw [rounds_succ]; go_wp2)))
  all_goals
    go_ret
    exact ⟨ret_of (by rw [← HR.out]; unfold lenD; split <;> (try split) <;> (try split) <;> omega), rfl⟩

theorem len_one (pn acked : Int) (w : World) (hp : 0 ≤ pn) (h : 0 ≤ acked) (h2 : acked ≤ 9223372036854775807) (h3 : pn ≤ acked) : Calls Try.prog 8 #[.int .u64 pn, .int .i64 acked] w fun e w' => e = .returned (.int .i64 1) ∧ w = w' := by
  rcases (show pn < acked ∨ pn = acked from by omega) with h4 | rfl
  all_goals
    go_enter Try.func8, Try.ntmps8
    go_wp2
    refine wp_loop_rounds 4 ?_
    iterate 4 (all_goals (try (rw [rounds_succ]; go_wp2)))
    all_goals
      go_ret
      exact ⟨rfl, rfl⟩

theorem len_top (acked : Int) (w : World) (h : acked < 0) : Calls Try.prog 8 #[.int .u64 18446744073709551615, .int .i64 acked] w fun e w' => e = .returned (.int .i64 4) ∧ w = w' := by
  go_enter Try.func8, Try.ntmps8
  go_wp2
  go_ret
  exact ⟨rfl, rfl⟩

theorem len_any (pn acked : Int) (w : World) (hp : 0 ≤ pn) (hp2 : pn ≤ 18446744073709551615) (h2 : acked ≤ 9223372036854775807) : Calls Try.prog 8 #[.int .u64 pn, .int .i64 acked] w fun e w' => e = .returned (.int .i64 (lenS pn acked)) ∧ w = w' := by
  unfold lenS
  by_cases h : acked < 0
  · rw [if_pos h]
    by_cases ht : pn = 18446744073709551615
    · rw [if_pos ht]; subst ht; exact len_top acked w h
    · rw [if_neg ht]; exact len_neg pn acked w hp (by omega) h
  · rw [if_neg h]
    by_cases h3 : pn ≤ acked
    · rw [if_pos h3]; exact len_one pn acked w hp (by omega) h2 h3
    · rw [if_neg h3]; exact len_pos pn acked w hp hp2 (by omega) h2 (by omega)

theorem lenR_neg (pn acked : Int) (w : World) (hp : 0 ≤ pn) (hp2 : pn ≤ 18446744073709551614) (h : acked < 0) : Calls Try.prog 9 #[.int .u64 pn, .int .i64 acked] w fun e w' => e = .returned (.int .i64 (lenD (pn + 1))) ∧ w = w' := by
  have hz : (pn + 1 == 0) = false := by rw [beq_eq_false_iff_ne]; omega
  obtain ⟨r, hr⟩ : ∃ r, lenD (pn + 1) = r := ⟨_, rfl⟩
  rw [hr]
  have HR := Lib.hid hr
  clear hr
  obtain ⟨y, hy⟩ : ∃ y, IntKind.u64.wrap (pn - 18446744073709551615) = y := ⟨_, rfl⟩
  rcases (show acked < -1 ∨ acked = -1 from by omega) with h4 | rfl
  all_goals
    rcases (show pn ≤ 9223372036854775807 ∨ 9223372036854775807 < pn from by omega) with h5 | h5
    all_goals
      have hx : ∃ x, wrap64 pn = x ∧ (9223372036854775807 < pn → x < 0) := ⟨_, rfl, fun h => by unfold wrap64; omega⟩
      obtain ⟨x, hx, hx2⟩ := hx
      have hx2 := hx2
      go_enter Try.func9, Try.ntmps9
      go_wp2
      refine wp_loop_rounds 4 ?_
      iterate 4 (all_goals (try (rw [rounds_succ]; go_wp2)))
      all_goals
        go_ret
        exact ⟨ret_of (by rw [← HR.out]; unfold lenD; split <;> (try split) <;> (try split) <;> omega), rfl⟩

theorem lenR_pos (pn acked : Int) (w : World) (hp : 0 ≤ pn) (hp2 : pn ≤ 18446744073709551615) (h : 0 ≤ acked) (h2 : acked ≤ 9223372036854775807) (h3 : acked < pn) : Calls Try.prog 9 #[.int .u64 pn, .int .i64 acked] w fun e w' => e = .returned (.int .i64 (lenD (pn - acked))) ∧ w = w' := by
  obtain ⟨r, hr⟩ : ∃ r, lenD (pn - acked) = r := ⟨_, rfl⟩
  rw [hr]
  have HR := Lib.hid hr
  clear hr
  rcases (show pn ≤ 9223372036854775807 ∨ 9223372036854775807 < pn from by omega) with h5 | h5
  all_goals
    have hx : ∃ x, wrap64 pn = x ∧ (9223372036854775807 < pn → x < 0) := ⟨_, rfl, fun h => by unfold wrap64; omega⟩
    obtain ⟨x, hx, hx2⟩ := hx
    go_enter Try.func9, Try.ntmps9
    go_wp2
    refine wp_loop_rounds 4 ?_
    iterate 4 (all_goals (try (rw [rounds_succ]; go_wp2)))
    all_goals
      go_ret
      exact ⟨ret_of (by rw [← HR.out]; unfold lenD; split <;> (try split) <;> (try split) <;> omega), rfl⟩

theorem lenR_one (pn acked : Int) (w : World) (hp : 0 ≤ pn) (h : 0 ≤ acked) (h2 : acked ≤ 9223372036854775807) (h3 : pn ≤ acked) : Calls Try.prog 9 #[.int .u64 pn, .int .i64 acked] w fun e w' => e = .returned (.int .i64 1) ∧ w = w' := by
  go_enter Try.func9, Try.ntmps9
  go_wp2
  refine wp_loop_rounds 4 ?_
  iterate 4 (all_goals (try (rw [rounds_succ]; go_wp2)))
  all_goals
    go_ret
    exact ⟨rfl, rfl⟩

theorem lenR_top (acked : Int) (w : World) (h : acked < 0) : Calls Try.prog 9 #[.int .u64 18446744073709551615, .int .i64 acked] w fun e w' => e = .returned (.int .i64 4) ∧ w = w' := by
  have hx : wrap64 18446744073709551615 = -1 := by unfold wrap64; rfl
  rcases (show acked < -1 ∨ acked = -1 from by omega) with h4 | rfl
  all_goals
    go_enter Try.func9, Try.ntmps9
    go_wp2
    go_ret
    exact ⟨rfl, rfl⟩

theorem lenR_any (pn acked : Int) (w : World) (hp : 0 ≤ pn) (hp2 : pn ≤ 18446744073709551615) (h2 : acked ≤ 9223372036854775807) : Calls Try.prog 9 #[.int .u64 pn, .int .i64 acked] w fun e w' => e = .returned (.int .i64 (lenS pn acked)) ∧ w = w' := by
  unfold lenS
  by_cases h : acked < 0
  · rw [if_pos h]
    by_cases ht : pn = 18446744073709551615
    · rw [if_pos ht]; subst ht; exact lenR_top acked w h
    · rw [if_neg ht]; exact lenR_neg pn acked w hp (by omega) h
  · rw [if_neg h]
    by_cases h3 : pn ≤ acked
    · rw [if_pos h3]; exact lenR_one pn acked w hp (by omega) h2 h3
    · rw [if_neg h3]; exact lenR_pos pn acked w hp hp2 (by omega) h2 (by omega)

theorem k1 (w : World) : Calls Try.prog 12 #[.int .u64 39730, .int .i64 2, .int .i64 2821665002] w fun e w' => e = .returned (.int .u64 2821692210) ∧ w = w' := by
  have h := full_any 39730 2 2821665002 w (by decide) (by decide) (by decide) (by decide)
  rw [show fullM (winN 2) 39730 (wantS 2821665002) = 2821692210 from by decide] at h
  exact h
theorem k2 (w : World) : Calls Try.prog 8 #[.int .u64 11295746, .int .i64 11266227] w fun e w' => e = .returned (.int .i64 2) ∧ w = w' := by
  have h := len_any 11295746 11266227 w (by decide) (by decide) (by decide)
  rw [show lenS 11295746 11266227 = 2 from by decide] at h
  exact h
theorem k3 (w : World) : Calls Try.prog 8 #[.int .u64 11331838, .int .i64 11266227] w fun e w' => e = .returned (.int .i64 3) ∧ w = w' := by
  have h := len_any 11331838 11266227 w (by decide) (by decide) (by decide)
  rw [show lenS 11331838 11266227 = 3 from by decide] at h
  exact h
theorem k4 (w : World) : Calls Try.prog 10 #[.int .u64 74565, .int .i64 2] w fun e w' => e = .returned (.int .u64 9029) ∧ w = w' := by
  have h := cut_any 74565 2 w (by decide) (by decide)
  rw [show (74565 : Int) % winN 2 = 9029 from by decide] at h
  exact h

theorem known_any (w : World) : Calls Try.prog 7 #[] w fun e w' => e = .returned (.bool true) ∧ w = w' := by
  go_enter Try.func7, Try.ntmps7
  go_wp2_with fail
  refine (k1 _).mono ?_
  rintro e w' ⟨rfl, rfl⟩
  go_wp2_with fail
  refine (k2 _).mono ?_
  rintro e w' ⟨rfl, rfl⟩
  go_wp2_with fail
  refine (k3 _).mono ?_
  rintro e w' ⟨rfl, rfl⟩
  go_wp2_with fail
  refine (k4 _).mono ?_
  rintro e w' ⟨rfl, rfl⟩
  go_wp2_with fail
  go_ret
  exact ⟨rfl, rfl⟩
end Go.Proofs.Ytfkipjjdnhmijaa
