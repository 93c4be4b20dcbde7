/- The walks of 'Full', the program's and the document's: both return the number that the plain function says; the world stays as it is. Conditions: the numbers fit their kinds. Printed by gen17.py. -/
import Derived.Test.YtfkipjjdnhmijaaWalkA
namespace Go.Proofs.Ytfkipjjdnhmijaa
open Go.RowKit

theorem full_1a (c n l : Int) (w : World) (h0 : 0 ≤ c) (h1 : c ≤ 18446744073709551615) (hl0 : -9223372036854775808 ≤ l) (hl1 : l ≤ 9223372036854775807) (hb : bytesN n = 1) (h : l < 0) :
    Calls Try.prog 12 #[.int .u64 c, .int .i64 n, .int .i64 l] w fun e w' => e = .returned (.int .u64 (fullM (winN n) c (wantS l))) ∧ w = w' := by
  have hw := win1 hb
  have hW : wantS l = 0 := by unfold wantS; rw [if_pos h]
  rw [hw, hW]
  clear hW
  have hK : bits .andNot .i64 0 255 = 0 - 0 % 256 := notI 8 (by decide) 0 (by omega) (by omega)
  have hO : bits .or .i64 (0 - 0 % 256) (c % 256) = 0 - 0 % 256 + c % 256 := orI 8 (by decide) 0 c (by omega) (by omega)
  obtain ⟨X, hX⟩ : ∃ X, bits .or .i64 (bits .andNot .i64 0 255) (c % 256) = X := ⟨_, rfl⟩
  have hE : 0 - 0 % 256 + c % 256 = X := by rw [← hX, hK, hO]
  have hx0 : 0 ≤ X := by omega
  have hx1 : X < 4611686018427387904 + 256 := by omega
  rw [show fullM 256 c 0 = fullX 256 X 0 from by rw [← hE]; rfl]
  clear hE hK hO
  rcases (show l < -1 ∨ l = -1 from by omega) with hm | rfl
  all_goals
    go_enter Try.func12, Try.ntmps12
    go_wp2_with (first | (go_at_call 14; refine (bytes_any _ _).mono ?_; rintro e w' ⟨rfl, rfl⟩) | (go_at_call 10; refine (cut_any _ _ _ h0 h1).mono ?_; rintro e w' ⟨rfl, rfl⟩))
    all_goals
      go_ret
      exact ⟨ret_of (by unfold fullX; split <;> (try split) <;> omega), rfl⟩

theorem full_1b (c n l : Int) (w : World) (h0 : 0 ≤ c) (h1 : c ≤ 18446744073709551615) (hl0 : -9223372036854775808 ≤ l) (hl1 : l ≤ 9223372036854775807) (hb : bytesN n = 1) (h : 0 ≤ l ∧ l < 4611686018427387904) :
    Calls Try.prog 12 #[.int .u64 c, .int .i64 n, .int .i64 l] w fun e w' => e = .returned (.int .u64 (fullM (winN n) c (wantS l))) ∧ w = w' := by
  have hw := win1 hb
  have hW : wantS l = (l + 1) := by unfold wantS; rw [if_neg (by omega), if_pos h.2]
  rw [hw, hW]
  clear hW
  obtain ⟨hA, hB⟩ := h
  have hK : bits .andNot .i64 (l + 1) 255 = (l + 1) - (l + 1) % 256 := notI 8 (by decide) (l + 1) (by omega) (by omega)
  have hO : bits .or .i64 ((l + 1) - (l + 1) % 256) (c % 256) = (l + 1) - (l + 1) % 256 + c % 256 := orI 8 (by decide) (l + 1) c (by omega) (by omega)
  obtain ⟨X, hX⟩ : ∃ X, bits .or .i64 (bits .andNot .i64 (l + 1) 255) (c % 256) = X := ⟨_, rfl⟩
  have hE : (l + 1) - (l + 1) % 256 + c % 256 = X := by rw [← hX, hK, hO]
  have hx0 : 0 ≤ X := by omega
  have hx1 : X < 4611686018427387904 + 256 := by omega
  rw [show fullM 256 c (l + 1) = fullX 256 X (l + 1) from by rw [← hE]; rfl]
  clear hE hK hO
  all_goals
    go_enter Try.func12, Try.ntmps12
    go_wp2_with (first | (go_at_call 14; refine (bytes_any _ _).mono ?_; rintro e w' ⟨rfl, rfl⟩) | (go_at_call 10; refine (cut_any _ _ _ h0 h1).mono ?_; rintro e w' ⟨rfl, rfl⟩))
    all_goals
      go_ret
      exact ⟨ret_of (by unfold fullX; split <;> (try split) <;> omega), rfl⟩

theorem full_1c (c n l : Int) (w : World) (h0 : 0 ≤ c) (h1 : c ≤ 18446744073709551615) (hl0 : -9223372036854775808 ≤ l) (hl1 : l ≤ 9223372036854775807) (hb : bytesN n = 1) (h : 4611686018427387904 ≤ l) :
    Calls Try.prog 12 #[.int .u64 c, .int .i64 n, .int .i64 l] w fun e w' => e = .returned (.int .u64 (fullM (winN n) c (wantS l))) ∧ w = w' := by
  have hw := win1 hb
  have hW : wantS l = 4611686018427387904 := by unfold wantS; rw [if_neg (by omega), if_neg (by omega)]
  rw [hw, hW]
  clear hW
  have hK : bits .andNot .i64 4611686018427387904 255 = 4611686018427387904 - 4611686018427387904 % 256 := notI 8 (by decide) 4611686018427387904 (by omega) (by omega)
  have hO : bits .or .i64 (4611686018427387904 - 4611686018427387904 % 256) (c % 256) = 4611686018427387904 - 4611686018427387904 % 256 + c % 256 := orI 8 (by decide) 4611686018427387904 c (by omega) (by omega)
  obtain ⟨X, hX⟩ : ∃ X, bits .or .i64 (bits .andNot .i64 4611686018427387904 255) (c % 256) = X := ⟨_, rfl⟩
  have hE : 4611686018427387904 - 4611686018427387904 % 256 + c % 256 = X := by rw [← hX, hK, hO]
  have hx0 : 0 ≤ X := by omega
  have hx1 : X < 4611686018427387904 + 256 := by omega
  rw [show fullM 256 c 4611686018427387904 = fullX 256 X 4611686018427387904 from by rw [← hE]; rfl]
  clear hE hK hO
  have hq1 : wrap64 9223372036854775808 = -9223372036854775808 := by unfold wrap64; rfl
  have hq2 : IntKind.u64.wrap (-9223372036854775808) = 9223372036854775808 := by rw [IntKind.wrap_u64]; rfl
  rcases (show l < 9223372036854775807 ∨ l = 9223372036854775807 from by omega) with hm | rfl
  all_goals
    go_enter Try.func12, Try.ntmps12
    go_wp2_with (first | (go_at_call 14; refine (bytes_any _ _).mono ?_; rintro e w' ⟨rfl, rfl⟩) | (go_at_call 10; refine (cut_any _ _ _ h0 h1).mono ?_; rintro e w' ⟨rfl, rfl⟩))
    all_goals
      go_ret
      exact ⟨ret_of (by unfold fullX; split <;> (try split) <;> omega), rfl⟩

theorem full_2a (c n l : Int) (w : World) (h0 : 0 ≤ c) (h1 : c ≤ 18446744073709551615) (hl0 : -9223372036854775808 ≤ l) (hl1 : l ≤ 9223372036854775807) (hb : bytesN n = 2) (h : l < 0) :
    Calls Try.prog 12 #[.int .u64 c, .int .i64 n, .int .i64 l] w fun e w' => e = .returned (.int .u64 (fullM (winN n) c (wantS l))) ∧ w = w' := by
  have hw := win2 hb
  have hW : wantS l = 0 := by unfold wantS; rw [if_pos h]
  rw [hw, hW]
  clear hW
  have hK : bits .andNot .i64 0 65535 = 0 - 0 % 65536 := notI 16 (by decide) 0 (by omega) (by omega)
  have hO : bits .or .i64 (0 - 0 % 65536) (c % 65536) = 0 - 0 % 65536 + c % 65536 := orI 16 (by decide) 0 c (by omega) (by omega)
  obtain ⟨X, hX⟩ : ∃ X, bits .or .i64 (bits .andNot .i64 0 65535) (c % 65536) = X := ⟨_, rfl⟩
  have hE : 0 - 0 % 65536 + c % 65536 = X := by rw [← hX, hK, hO]
  have hx0 : 0 ≤ X := by omega
  have hx1 : X < 4611686018427387904 + 65536 := by omega
  rw [show fullM 65536 c 0 = fullX 65536 X 0 from by rw [← hE]; rfl]
  clear hE hK hO
  rcases (show l < -1 ∨ l = -1 from by omega) with hm | rfl
  all_goals
    go_enter Try.func12, Try.ntmps12
    go_wp2_with (first | (go_at_call 14; refine (bytes_any _ _).mono ?_; rintro e w' ⟨rfl, rfl⟩) | (go_at_call 10; refine (cut_any _ _ _ h0 h1).mono ?_; rintro e w' ⟨rfl, rfl⟩))
    all_goals
      go_ret
      exact ⟨ret_of (by unfold fullX; split <;> (try split) <;> omega), rfl⟩

theorem full_2b (c n l : Int) (w : World) (h0 : 0 ≤ c) (h1 : c ≤ 18446744073709551615) (hl0 : -9223372036854775808 ≤ l) (hl1 : l ≤ 9223372036854775807) (hb : bytesN n = 2) (h : 0 ≤ l ∧ l < 4611686018427387904) :
    Calls Try.prog 12 #[.int .u64 c, .int .i64 n, .int .i64 l] w fun e w' => e = .returned (.int .u64 (fullM (winN n) c (wantS l))) ∧ w = w' := by
  have hw := win2 hb
  have hW : wantS l = (l + 1) := by unfold wantS; rw [if_neg (by omega), if_pos h.2]
  rw [hw, hW]
  clear hW
  obtain ⟨hA, hB⟩ := h
  have hK : bits .andNot .i64 (l + 1) 65535 = (l + 1) - (l + 1) % 65536 := notI 16 (by decide) (l + 1) (by omega) (by omega)
  have hO : bits .or .i64 ((l + 1) - (l + 1) % 65536) (c % 65536) = (l + 1) - (l + 1) % 65536 + c % 65536 := orI 16 (by decide) (l + 1) c (by omega) (by omega)
  obtain ⟨X, hX⟩ : ∃ X, bits .or .i64 (bits .andNot .i64 (l + 1) 65535) (c % 65536) = X := ⟨_, rfl⟩
  have hE : (l + 1) - (l + 1) % 65536 + c % 65536 = X := by rw [← hX, hK, hO]
  have hx0 : 0 ≤ X := by omega
  have hx1 : X < 4611686018427387904 + 65536 := by omega
  rw [show fullM 65536 c (l + 1) = fullX 65536 X (l + 1) from by rw [← hE]; rfl]
  clear hE hK hO
  all_goals
    go_enter Try.func12, Try.ntmps12
    go_wp2_with (first | (go_at_call 14; refine (bytes_any _ _).mono ?_; rintro e w' ⟨rfl, rfl⟩) | (go_at_call 10; refine (cut_any _ _ _ h0 h1).mono ?_; rintro e w' ⟨rfl, rfl⟩))
    all_goals
      go_ret
      exact ⟨ret_of (by unfold fullX; split <;> (try split) <;> omega), rfl⟩

theorem full_2c (c n l : Int) (w : World) (h0 : 0 ≤ c) (h1 : c ≤ 18446744073709551615) (hl0 : -9223372036854775808 ≤ l) (hl1 : l ≤ 9223372036854775807) (hb : bytesN n = 2) (h : 4611686018427387904 ≤ l) :
    Calls Try.prog 12 #[.int .u64 c, .int .i64 n, .int .i64 l] w fun e w' => e = .returned (.int .u64 (fullM (winN n) c (wantS l))) ∧ w = w' := by
  have hw := win2 hb
  have hW : wantS l = 4611686018427387904 := by unfold wantS; rw [if_neg (by omega), if_neg (by omega)]
  rw [hw, hW]
  clear hW
  have hK : bits .andNot .i64 4611686018427387904 65535 = 4611686018427387904 - 4611686018427387904 % 65536 := notI 16 (by decide) 4611686018427387904 (by omega) (by omega)
  have hO : bits .or .i64 (4611686018427387904 - 4611686018427387904 % 65536) (c % 65536) = 4611686018427387904 - 4611686018427387904 % 65536 + c % 65536 := orI 16 (by decide) 4611686018427387904 c (by omega) (by omega)
  obtain ⟨X, hX⟩ : ∃ X, bits .or .i64 (bits .andNot .i64 4611686018427387904 65535) (c % 65536) = X := ⟨_, rfl⟩
  have hE : 4611686018427387904 - 4611686018427387904 % 65536 + c % 65536 = X := by rw [← hX, hK, hO]
  have hx0 : 0 ≤ X := by omega
  have hx1 : X < 4611686018427387904 + 65536 := by omega
  rw [show fullM 65536 c 4611686018427387904 = fullX 65536 X 4611686018427387904 from by rw [← hE]; rfl]
  clear hE hK hO
  have hq1 : wrap64 9223372036854775808 = -9223372036854775808 := by unfold wrap64; rfl
  have hq2 : IntKind.u64.wrap (-9223372036854775808) = 9223372036854775808 := by rw [IntKind.wrap_u64]; rfl
  rcases (show l < 9223372036854775807 ∨ l = 9223372036854775807 from by omega) with hm | rfl
  all_goals
    go_enter Try.func12, Try.ntmps12
    go_wp2_with (first | (go_at_call 14; refine (bytes_any _ _).mono ?_; rintro e w' ⟨rfl, rfl⟩) | (go_at_call 10; refine (cut_any _ _ _ h0 h1).mono ?_; rintro e w' ⟨rfl, rfl⟩))
    all_goals
      go_ret
      exact ⟨ret_of (by unfold fullX; split <;> (try split) <;> omega), rfl⟩

theorem full_3a (c n l : Int) (w : World) (h0 : 0 ≤ c) (h1 : c ≤ 18446744073709551615) (hl0 : -9223372036854775808 ≤ l) (hl1 : l ≤ 9223372036854775807) (hb : bytesN n = 3) (h : l < 0) :
    Calls Try.prog 12 #[.int .u64 c, .int .i64 n, .int .i64 l] w fun e w' => e = .returned (.int .u64 (fullM (winN n) c (wantS l))) ∧ w = w' := by
  have hw := win3 hb
  have hW : wantS l = 0 := by unfold wantS; rw [if_pos h]
  rw [hw, hW]
  clear hW
  have hK : bits .andNot .i64 0 16777215 = 0 - 0 % 16777216 := notI 24 (by decide) 0 (by omega) (by omega)
  have hO : bits .or .i64 (0 - 0 % 16777216) (c % 16777216) = 0 - 0 % 16777216 + c % 16777216 := orI 24 (by decide) 0 c (by omega) (by omega)
  obtain ⟨X, hX⟩ : ∃ X, bits .or .i64 (bits .andNot .i64 0 16777215) (c % 16777216) = X := ⟨_, rfl⟩
  have hE : 0 - 0 % 16777216 + c % 16777216 = X := by rw [← hX, hK, hO]
  have hx0 : 0 ≤ X := by omega
  have hx1 : X < 4611686018427387904 + 16777216 := by omega
  rw [show fullM 16777216 c 0 = fullX 16777216 X 0 from by rw [← hE]; rfl]
  clear hE hK hO
  rcases (show l < -1 ∨ l = -1 from by omega) with hm | rfl
  all_goals
    go_enter Try.func12, Try.ntmps12
    go_wp2_with (first | (go_at_call 14; refine (bytes_any _ _).mono ?_; rintro e w' ⟨rfl, rfl⟩) | (go_at_call 10; refine (cut_any _ _ _ h0 h1).mono ?_; rintro e w' ⟨rfl, rfl⟩))
    all_goals
      go_ret
      exact ⟨ret_of (by unfold fullX; split <;> (try split) <;> omega), rfl⟩

theorem full_3b (c n l : Int) (w : World) (h0 : 0 ≤ c) (h1 : c ≤ 18446744073709551615) (hl0 : -9223372036854775808 ≤ l) (hl1 : l ≤ 9223372036854775807) (hb : bytesN n = 3) (h : 0 ≤ l ∧ l < 4611686018427387904) :
    Calls Try.prog 12 #[.int .u64 c, .int .i64 n, .int .i64 l] w fun e w' => e = .returned (.int .u64 (fullM (winN n) c (wantS l))) ∧ w = w' := by
  have hw := win3 hb
  have hW : wantS l = (l + 1) := by unfold wantS; rw [if_neg (by omega), if_pos h.2]
  rw [hw, hW]
  clear hW
  obtain ⟨hA, hB⟩ := h
  have hK : bits .andNot .i64 (l + 1) 16777215 = (l + 1) - (l + 1) % 16777216 := notI 24 (by decide) (l + 1) (by omega) (by omega)
  have hO : bits .or .i64 ((l + 1) - (l + 1) % 16777216) (c % 16777216) = (l + 1) - (l + 1) % 16777216 + c % 16777216 := orI 24 (by decide) (l + 1) c (by omega) (by omega)
  obtain ⟨X, hX⟩ : ∃ X, bits .or .i64 (bits .andNot .i64 (l + 1) 16777215) (c % 16777216) = X := ⟨_, rfl⟩
  have hE : (l + 1) - (l + 1) % 16777216 + c % 16777216 = X := by rw [← hX, hK, hO]
  have hx0 : 0 ≤ X := by omega
  have hx1 : X < 4611686018427387904 + 16777216 := by omega
  rw [show fullM 16777216 c (l + 1) = fullX 16777216 X (l + 1) from by rw [← hE]; rfl]
  clear hE hK hO
  all_goals
    go_enter Try.func12, Try.ntmps12
    go_wp2_with (first | (go_at_call 14; refine (bytes_any _ _).mono ?_; rintro e w' ⟨rfl, rfl⟩) | (go_at_call 10; refine (cut_any _ _ _ h0 h1).mono ?_; rintro e w' ⟨rfl, rfl⟩))
    all_goals
      go_ret
      exact ⟨ret_of (by unfold fullX; split <;> (try split) <;> omega), rfl⟩

theorem full_3c (c n l : Int) (w : World) (h0 : 0 ≤ c) (h1 : c ≤ 18446744073709551615) (hl0 : -9223372036854775808 ≤ l) (hl1 : l ≤ 9223372036854775807) (hb : bytesN n = 3) (h : 4611686018427387904 ≤ l) :
    Calls Try.prog 12 #[.int .u64 c, .int .i64 n, .int .i64 l] w fun e w' => e = .returned (.int .u64 (fullM (winN n) c (wantS l))) ∧ w = w' := by
  have hw := win3 hb
  have hW : wantS l = 4611686018427387904 := by unfold wantS; rw [if_neg (by omega), if_neg (by omega)]
  rw [hw, hW]
  clear hW
  have hK : bits .andNot .i64 4611686018427387904 16777215 = 4611686018427387904 - 4611686018427387904 % 16777216 := notI 24 (by decide) 4611686018427387904 (by omega) (by omega)
  have hO : bits .or .i64 (4611686018427387904 - 4611686018427387904 % 16777216) (c % 16777216) = 4611686018427387904 - 4611686018427387904 % 16777216 + c % 16777216 := orI 24 (by decide) 4611686018427387904 c (by omega) (by omega)
  obtain ⟨X, hX⟩ : ∃ X, bits .or .i64 (bits .andNot .i64 4611686018427387904 16777215) (c % 16777216) = X := ⟨_, rfl⟩
  have hE : 4611686018427387904 - 4611686018427387904 % 16777216 + c % 16777216 = X := by rw [← hX, hK, hO]
  have hx0 : 0 ≤ X := by omega
  have hx1 : X < 4611686018427387904 + 16777216 := by omega
  rw [show fullM 16777216 c 4611686018427387904 = fullX 16777216 X 4611686018427387904 from by rw [← hE]; rfl]
  clear hE hK hO
  have hq1 : wrap64 9223372036854775808 = -9223372036854775808 := by unfold wrap64; rfl
  have hq2 : IntKind.u64.wrap (-9223372036854775808) = 9223372036854775808 := by rw [IntKind.wrap_u64]; rfl
  rcases (show l < 9223372036854775807 ∨ l = 9223372036854775807 from by omega) with hm | rfl
  all_goals
    go_enter Try.func12, Try.ntmps12
    go_wp2_with (first | (go_at_call 14; refine (bytes_any _ _).mono ?_; rintro e w' ⟨rfl, rfl⟩) | (go_at_call 10; refine (cut_any _ _ _ h0 h1).mono ?_; rintro e w' ⟨rfl, rfl⟩))
    all_goals
      go_ret
      exact ⟨ret_of (by unfold fullX; split <;> (try split) <;> omega), rfl⟩

theorem full_4a (c n l : Int) (w : World) (h0 : 0 ≤ c) (h1 : c ≤ 18446744073709551615) (hl0 : -9223372036854775808 ≤ l) (hl1 : l ≤ 9223372036854775807) (hb : bytesN n = 4) (h : l < 0) :
    Calls Try.prog 12 #[.int .u64 c, .int .i64 n, .int .i64 l] w fun e w' => e = .returned (.int .u64 (fullM (winN n) c (wantS l))) ∧ w = w' := by
  have hw := win4 hb
  have hW : wantS l = 0 := by unfold wantS; rw [if_pos h]
  rw [hw, hW]
  clear hW
  have hK : bits .andNot .i64 0 4294967295 = 0 - 0 % 4294967296 := notI 32 (by decide) 0 (by omega) (by omega)
  have hO : bits .or .i64 (0 - 0 % 4294967296) (c % 4294967296) = 0 - 0 % 4294967296 + c % 4294967296 := orI 32 (by decide) 0 c (by omega) (by omega)
  obtain ⟨X, hX⟩ : ∃ X, bits .or .i64 (bits .andNot .i64 0 4294967295) (c % 4294967296) = X := ⟨_, rfl⟩
  have hE : 0 - 0 % 4294967296 + c % 4294967296 = X := by rw [← hX, hK, hO]
  have hx0 : 0 ≤ X := by omega
  have hx1 : X < 4611686018427387904 + 4294967296 := by omega
  rw [show fullM 4294967296 c 0 = fullX 4294967296 X 0 from by rw [← hE]; rfl]
  clear hE hK hO
  rcases (show l < -1 ∨ l = -1 from by omega) with hm | rfl
  all_goals
    go_enter Try.func12, Try.ntmps12
    go_wp2_with (first | (go_at_call 14; refine (bytes_any _ _).mono ?_; rintro e w' ⟨rfl, rfl⟩) | (go_at_call 10; refine (cut_any _ _ _ h0 h1).mono ?_; rintro e w' ⟨rfl, rfl⟩))
    all_goals
      go_ret
      exact ⟨ret_of (by unfold fullX; split <;> (try split) <;> omega), rfl⟩

theorem full_4b (c n l : Int) (w : World) (h0 : 0 ≤ c) (h1 : c ≤ 18446744073709551615) (hl0 : -9223372036854775808 ≤ l) (hl1 : l ≤ 9223372036854775807) (hb : bytesN n = 4) (h : 0 ≤ l ∧ l < 4611686018427387904) :
    Calls Try.prog 12 #[.int .u64 c, .int .i64 n, .int .i64 l] w fun e w' => e = .returned (.int .u64 (fullM (winN n) c (wantS l))) ∧ w = w' := by
  have hw := win4 hb
  have hW : wantS l = (l + 1) := by unfold wantS; rw [if_neg (by omega), if_pos h.2]
  rw [hw, hW]
  clear hW
  obtain ⟨hA, hB⟩ := h
  have hK : bits .andNot .i64 (l + 1) 4294967295 = (l + 1) - (l + 1) % 4294967296 := notI 32 (by decide) (l + 1) (by omega) (by omega)
  have hO : bits .or .i64 ((l + 1) - (l + 1) % 4294967296) (c % 4294967296) = (l + 1) - (l + 1) % 4294967296 + c % 4294967296 := orI 32 (by decide) (l + 1) c (by omega) (by omega)
  obtain ⟨X, hX⟩ : ∃ X, bits .or .i64 (bits .andNot .i64 (l + 1) 4294967295) (c % 4294967296) = X := ⟨_, rfl⟩
  have hE : (l + 1) - (l + 1) % 4294967296 + c % 4294967296 = X := by rw [← hX, hK, hO]
  have hx0 : 0 ≤ X := by omega
  have hx1 : X < 4611686018427387904 + 4294967296 := by omega
  rw [show fullM 4294967296 c (l + 1) = fullX 4294967296 X (l + 1) from by rw [← hE]; rfl]
  clear hE hK hO
  all_goals
    go_enter Try.func12, Try.ntmps12
    go_wp2_with (first | (go_at_call 14; refine (bytes_any _ _).mono ?_; rintro e w' ⟨rfl, rfl⟩) | (go_at_call 10; refine (cut_any _ _ _ h0 h1).mono ?_; rintro e w' ⟨rfl, rfl⟩))
    all_goals
      go_ret
      exact ⟨ret_of (by unfold fullX; split <;> (try split) <;> omega), rfl⟩

theorem full_4c (c n l : Int) (w : World) (h0 : 0 ≤ c) (h1 : c ≤ 18446744073709551615) (hl0 : -9223372036854775808 ≤ l) (hl1 : l ≤ 9223372036854775807) (hb : bytesN n = 4) (h : 4611686018427387904 ≤ l) :
    Calls Try.prog 12 #[.int .u64 c, .int .i64 n, .int .i64 l] w fun e w' => e = .returned (.int .u64 (fullM (winN n) c (wantS l))) ∧ w = w' := by
  have hw := win4 hb
  have hW : wantS l = 4611686018427387904 := by unfold wantS; rw [if_neg (by omega), if_neg (by omega)]
  rw [hw, hW]
  clear hW
  have hK : bits .andNot .i64 4611686018427387904 4294967295 = 4611686018427387904 - 4611686018427387904 % 4294967296 := notI 32 (by decide) 4611686018427387904 (by omega) (by omega)
  have hO : bits .or .i64 (4611686018427387904 - 4611686018427387904 % 4294967296) (c % 4294967296) = 4611686018427387904 - 4611686018427387904 % 4294967296 + c % 4294967296 := orI 32 (by decide) 4611686018427387904 c (by omega) (by omega)
  obtain ⟨X, hX⟩ : ∃ X, bits .or .i64 (bits .andNot .i64 4611686018427387904 4294967295) (c % 4294967296) = X := ⟨_, rfl⟩
  have hE : 4611686018427387904 - 4611686018427387904 % 4294967296 + c % 4294967296 = X := by rw [← hX, hK, hO]
  have hx0 : 0 ≤ X := by omega
  have hx1 : X < 4611686018427387904 + 4294967296 := by omega
  rw [show fullM 4294967296 c 4611686018427387904 = fullX 4294967296 X 4611686018427387904 from by rw [← hE]; rfl]
  clear hE hK hO
  have hq1 : wrap64 9223372036854775808 = -9223372036854775808 := by unfold wrap64; rfl
  have hq2 : IntKind.u64.wrap (-9223372036854775808) = 9223372036854775808 := by rw [IntKind.wrap_u64]; rfl
  rcases (show l < 9223372036854775807 ∨ l = 9223372036854775807 from by omega) with hm | rfl
  all_goals
    go_enter Try.func12, Try.ntmps12
    go_wp2_with (first | (go_at_call 14; refine (bytes_any _ _).mono ?_; rintro e w' ⟨rfl, rfl⟩) | (go_at_call 10; refine (cut_any _ _ _ h0 h1).mono ?_; rintro e w' ⟨rfl, rfl⟩))
    all_goals
      go_ret
      exact ⟨ret_of (by unfold fullX; split <;> (try split) <;> omega), rfl⟩

theorem full_any (c n l : Int) (w : World) (h0 : 0 ≤ c) (h1 : c ≤ 18446744073709551615) (hl0 : -9223372036854775808 ≤ l) (hl1 : l ≤ 9223372036854775807) :
    Calls Try.prog 12 #[.int .u64 c, .int .i64 n, .int .i64 l] w fun e w' => e = .returned (.int .u64 (fullM (winN n) c (wantS l))) ∧ w = w' := by
  have hl : l < 0 ∨ (0 ≤ l ∧ l < 4611686018427387904) ∨ 4611686018427387904 ≤ l := by omega
  rcases bytesN_cases n with hb | hb | hb | hb <;> rcases hl with h | h | h
  · exact full_1a c n l w h0 h1 hl0 hl1 hb h
  · exact full_1b c n l w h0 h1 hl0 hl1 hb h
  · exact full_1c c n l w h0 h1 hl0 hl1 hb h
  · exact full_2a c n l w h0 h1 hl0 hl1 hb h
  · exact full_2b c n l w h0 h1 hl0 hl1 hb h
  · exact full_2c c n l w h0 h1 hl0 hl1 hb h
  · exact full_3a c n l w h0 h1 hl0 hl1 hb h
  · exact full_3b c n l w h0 h1 hl0 hl1 hb h
  · exact full_3c c n l w h0 h1 hl0 hl1 hb h
  · exact full_4a c n l w h0 h1 hl0 hl1 hb h
  · exact full_4b c n l w h0 h1 hl0 hl1 hb h
  · exact full_4c c n l w h0 h1 hl0 hl1 hb h

theorem fullR_1a (c n l : Int) (w : World) (h0 : 0 ≤ c) (h1 : c ≤ 18446744073709551615) (hl0 : -9223372036854775808 ≤ l) (hl1 : l ≤ 9223372036854775807) (hb : bytesN n = 1) (h : l < 0) :
    Calls Try.prog 13 #[.int .u64 c, .int .i64 n, .int .i64 l] w fun e w' => e = .returned (.int .u64 (fullM (winN n) c (wantS l))) ∧ w = w' := by
  have hw := win1 hb
  have hW : wantS l = 0 := by unfold wantS; rw [if_pos h]
  rw [hw, hW]
  clear hW
  have hK : bits .andNot .u64 0 255 = 0 - 0 % 256 := notU 8 (by decide) 0 (by omega) (by omega)
  have hO : bits .or .u64 (0 - 0 % 256) (c % 256) = 0 - 0 % 256 + c % 256 := orU 8 (by decide) 0 c (by omega) (by omega)
  obtain ⟨X, hX⟩ : ∃ X, bits .or .u64 (bits .andNot .u64 0 255) (c % 256) = X := ⟨_, rfl⟩
  have hE : 0 - 0 % 256 + c % 256 = X := by rw [← hX, hK, hO]
  have hx0 : 0 ≤ X := by omega
  have hx1 : X < 4611686018427387904 + 256 := by omega
  rw [show fullM 256 c 0 = fullX 256 X 0 from by rw [← hE]; rfl]
  clear hE hK hO
  have hC := and255 c h0 h1
  rcases (show l < -1 ∨ l = -1 from by omega) with hm | rfl
  all_goals
    go_enter Try.func13, Try.ntmps13
    go_wp2_with (first | (go_at_call 15; refine (bytesR_any _ _).mono ?_; rintro e w' ⟨rfl, rfl⟩))
    all_goals
      go_ret
      exact ⟨ret_of (by unfold fullX; split <;> (try split) <;> omega), rfl⟩

theorem fullR_1b (c n l : Int) (w : World) (h0 : 0 ≤ c) (h1 : c ≤ 18446744073709551615) (hl0 : -9223372036854775808 ≤ l) (hl1 : l ≤ 9223372036854775807) (hb : bytesN n = 1) (h : 0 ≤ l ∧ l < 4611686018427387904) :
    Calls Try.prog 13 #[.int .u64 c, .int .i64 n, .int .i64 l] w fun e w' => e = .returned (.int .u64 (fullM (winN n) c (wantS l))) ∧ w = w' := by
  have hw := win1 hb
  have hW : wantS l = (l + 1) := by unfold wantS; rw [if_neg (by omega), if_pos h.2]
  rw [hw, hW]
  clear hW
  obtain ⟨hA, hB⟩ := h
  have hK : bits .andNot .u64 (l + 1) 255 = (l + 1) - (l + 1) % 256 := notU 8 (by decide) (l + 1) (by omega) (by omega)
  have hO : bits .or .u64 ((l + 1) - (l + 1) % 256) (c % 256) = (l + 1) - (l + 1) % 256 + c % 256 := orU 8 (by decide) (l + 1) c (by omega) (by omega)
  obtain ⟨X, hX⟩ : ∃ X, bits .or .u64 (bits .andNot .u64 (l + 1) 255) (c % 256) = X := ⟨_, rfl⟩
  have hE : (l + 1) - (l + 1) % 256 + c % 256 = X := by rw [← hX, hK, hO]
  have hx0 : 0 ≤ X := by omega
  have hx1 : X < 4611686018427387904 + 256 := by omega
  rw [show fullM 256 c (l + 1) = fullX 256 X (l + 1) from by rw [← hE]; rfl]
  clear hE hK hO
  have hC := and255 c h0 h1
  all_goals
    go_enter Try.func13, Try.ntmps13
    go_wp2_with (first | (go_at_call 15; refine (bytesR_any _ _).mono ?_; rintro e w' ⟨rfl, rfl⟩))
    all_goals
      go_ret
      exact ⟨ret_of (by unfold fullX; split <;> (try split) <;> omega), rfl⟩

theorem fullR_1c (c n l : Int) (w : World) (h0 : 0 ≤ c) (h1 : c ≤ 18446744073709551615) (hl0 : -9223372036854775808 ≤ l) (hl1 : l ≤ 9223372036854775807) (hb : bytesN n = 1) (h : 4611686018427387904 ≤ l) :
    Calls Try.prog 13 #[.int .u64 c, .int .i64 n, .int .i64 l] w fun e w' => e = .returned (.int .u64 (fullM (winN n) c (wantS l))) ∧ w = w' := by
  have hw := win1 hb
  have hW : wantS l = 4611686018427387904 := by unfold wantS; rw [if_neg (by omega), if_neg (by omega)]
  rw [hw, hW]
  clear hW
  have hK : bits .andNot .u64 4611686018427387904 255 = 4611686018427387904 - 4611686018427387904 % 256 := notU 8 (by decide) 4611686018427387904 (by omega) (by omega)
  have hO : bits .or .u64 (4611686018427387904 - 4611686018427387904 % 256) (c % 256) = 4611686018427387904 - 4611686018427387904 % 256 + c % 256 := orU 8 (by decide) 4611686018427387904 c (by omega) (by omega)
  obtain ⟨X, hX⟩ : ∃ X, bits .or .u64 (bits .andNot .u64 4611686018427387904 255) (c % 256) = X := ⟨_, rfl⟩
  have hE : 4611686018427387904 - 4611686018427387904 % 256 + c % 256 = X := by rw [← hX, hK, hO]
  have hx0 : 0 ≤ X := by omega
  have hx1 : X < 4611686018427387904 + 256 := by omega
  rw [show fullM 256 c 4611686018427387904 = fullX 256 X 4611686018427387904 from by rw [← hE]; rfl]
  clear hE hK hO
  have hC := and255 c h0 h1
  have hq1 : wrap64 9223372036854775808 = -9223372036854775808 := by unfold wrap64; rfl
  have hq2 : IntKind.u64.wrap (-9223372036854775808) = 9223372036854775808 := by rw [IntKind.wrap_u64]; rfl
  rcases (show l < 9223372036854775807 ∨ l = 9223372036854775807 from by omega) with hm | rfl
  all_goals
    go_enter Try.func13, Try.ntmps13
    go_wp2_with (first | (go_at_call 15; refine (bytesR_any _ _).mono ?_; rintro e w' ⟨rfl, rfl⟩))
    all_goals
      go_ret
      exact ⟨ret_of (by unfold fullX; split <;> (try split) <;> omega), rfl⟩

theorem fullR_2a (c n l : Int) (w : World) (h0 : 0 ≤ c) (h1 : c ≤ 18446744073709551615) (hl0 : -9223372036854775808 ≤ l) (hl1 : l ≤ 9223372036854775807) (hb : bytesN n = 2) (h : l < 0) :
    Calls Try.prog 13 #[.int .u64 c, .int .i64 n, .int .i64 l] w fun e w' => e = .returned (.int .u64 (fullM (winN n) c (wantS l))) ∧ w = w' := by
  have hw := win2 hb
  have hW : wantS l = 0 := by unfold wantS; rw [if_pos h]
  rw [hw, hW]
  clear hW
  have hK : bits .andNot .u64 0 65535 = 0 - 0 % 65536 := notU 16 (by decide) 0 (by omega) (by omega)
  have hO : bits .or .u64 (0 - 0 % 65536) (c % 65536) = 0 - 0 % 65536 + c % 65536 := orU 16 (by decide) 0 c (by omega) (by omega)
  obtain ⟨X, hX⟩ : ∃ X, bits .or .u64 (bits .andNot .u64 0 65535) (c % 65536) = X := ⟨_, rfl⟩
  have hE : 0 - 0 % 65536 + c % 65536 = X := by rw [← hX, hK, hO]
  have hx0 : 0 ≤ X := by omega
  have hx1 : X < 4611686018427387904 + 65536 := by omega
  rw [show fullM 65536 c 0 = fullX 65536 X 0 from by rw [← hE]; rfl]
  clear hE hK hO
  have hC := and65535 c h0 h1
  rcases (show l < -1 ∨ l = -1 from by omega) with hm | rfl
  all_goals
    go_enter Try.func13, Try.ntmps13
    go_wp2_with (first | (go_at_call 15; refine (bytesR_any _ _).mono ?_; rintro e w' ⟨rfl, rfl⟩))
    all_goals
      go_ret
      exact ⟨ret_of (by unfold fullX; split <;> (try split) <;> omega), rfl⟩

theorem fullR_2b (c n l : Int) (w : World) (h0 : 0 ≤ c) (h1 : c ≤ 18446744073709551615) (hl0 : -9223372036854775808 ≤ l) (hl1 : l ≤ 9223372036854775807) (hb : bytesN n = 2) (h : 0 ≤ l ∧ l < 4611686018427387904) :
    Calls Try.prog 13 #[.int .u64 c, .int .i64 n, .int .i64 l] w fun e w' => e = .returned (.int .u64 (fullM (winN n) c (wantS l))) ∧ w = w' := by
  have hw := win2 hb
  have hW : wantS l = (l + 1) := by unfold wantS; rw [if_neg (by omega), if_pos h.2]
  rw [hw, hW]
  clear hW
  obtain ⟨hA, hB⟩ := h
  have hK : bits .andNot .u64 (l + 1) 65535 = (l + 1) - (l + 1) % 65536 := notU 16 (by decide) (l + 1) (by omega) (by omega)
  have hO : bits .or .u64 ((l + 1) - (l + 1) % 65536) (c % 65536) = (l + 1) - (l + 1) % 65536 + c % 65536 := orU 16 (by decide) (l + 1) c (by omega) (by omega)
  obtain ⟨X, hX⟩ : ∃ X, bits .or .u64 (bits .andNot .u64 (l + 1) 65535) (c % 65536) = X := ⟨_, rfl⟩
  have hE : (l + 1) - (l + 1) % 65536 + c % 65536 = X := by rw [← hX, hK, hO]
  have hx0 : 0 ≤ X := by omega
  have hx1 : X < 4611686018427387904 + 65536 := by omega
  rw [show fullM 65536 c (l + 1) = fullX 65536 X (l + 1) from by rw [← hE]; rfl]
  clear hE hK hO
  have hC := and65535 c h0 h1
  all_goals
    go_enter Try.func13, Try.ntmps13
    go_wp2_with (first | (go_at_call 15; refine (bytesR_any _ _).mono ?_; rintro e w' ⟨rfl, rfl⟩))
    all_goals
      go_ret
      exact ⟨ret_of (by unfold fullX; split <;> (try split) <;> omega), rfl⟩

theorem fullR_2c (c n l : Int) (w : World) (h0 : 0 ≤ c) (h1 : c ≤ 18446744073709551615) (hl0 : -9223372036854775808 ≤ l) (hl1 : l ≤ 9223372036854775807) (hb : bytesN n = 2) (h : 4611686018427387904 ≤ l) :
    Calls Try.prog 13 #[.int .u64 c, .int .i64 n, .int .i64 l] w fun e w' => e = .returned (.int .u64 (fullM (winN n) c (wantS l))) ∧ w = w' := by
  have hw := win2 hb
  have hW : wantS l = 4611686018427387904 := by unfold wantS; rw [if_neg (by omega), if_neg (by omega)]
  rw [hw, hW]
  clear hW
  have hK : bits .andNot .u64 4611686018427387904 65535 = 4611686018427387904 - 4611686018427387904 % 65536 := notU 16 (by decide) 4611686018427387904 (by omega) (by omega)
  have hO : bits .or .u64 (4611686018427387904 - 4611686018427387904 % 65536) (c % 65536) = 4611686018427387904 - 4611686018427387904 % 65536 + c % 65536 := orU 16 (by decide) 4611686018427387904 c (by omega) (by omega)
  obtain ⟨X, hX⟩ : ∃ X, bits .or .u64 (bits .andNot .u64 4611686018427387904 65535) (c % 65536) = X := ⟨_, rfl⟩
  have hE : 4611686018427387904 - 4611686018427387904 % 65536 + c % 65536 = X := by rw [← hX, hK, hO]
  have hx0 : 0 ≤ X := by omega
  have hx1 : X < 4611686018427387904 + 65536 := by omega
  rw [show fullM 65536 c 4611686018427387904 = fullX 65536 X 4611686018427387904 from by rw [← hE]; rfl]
  clear hE hK hO
  have hC := and65535 c h0 h1
  have hq1 : wrap64 9223372036854775808 = -9223372036854775808 := by unfold wrap64; rfl
  have hq2 : IntKind.u64.wrap (-9223372036854775808) = 9223372036854775808 := by rw [IntKind.wrap_u64]; rfl
  rcases (show l < 9223372036854775807 ∨ l = 9223372036854775807 from by omega) with hm | rfl
  all_goals
    go_enter Try.func13, Try.ntmps13
    go_wp2_with (first | (go_at_call 15; refine (bytesR_any _ _).mono ?_; rintro e w' ⟨rfl, rfl⟩))
    all_goals
      go_ret
      exact ⟨ret_of (by unfold fullX; split <;> (try split) <;> omega), rfl⟩

theorem fullR_3a (c n l : Int) (w : World) (h0 : 0 ≤ c) (h1 : c ≤ 18446744073709551615) (hl0 : -9223372036854775808 ≤ l) (hl1 : l ≤ 9223372036854775807) (hb : bytesN n = 3) (h : l < 0) :
    Calls Try.prog 13 #[.int .u64 c, .int .i64 n, .int .i64 l] w fun e w' => e = .returned (.int .u64 (fullM (winN n) c (wantS l))) ∧ w = w' := by
  have hw := win3 hb
  have hW : wantS l = 0 := by unfold wantS; rw [if_pos h]
  rw [hw, hW]
  clear hW
  have hK : bits .andNot .u64 0 16777215 = 0 - 0 % 16777216 := notU 24 (by decide) 0 (by omega) (by omega)
  have hO : bits .or .u64 (0 - 0 % 16777216) (c % 16777216) = 0 - 0 % 16777216 + c % 16777216 := orU 24 (by decide) 0 c (by omega) (by omega)
  obtain ⟨X, hX⟩ : ∃ X, bits .or .u64 (bits .andNot .u64 0 16777215) (c % 16777216) = X := ⟨_, rfl⟩
  have hE : 0 - 0 % 16777216 + c % 16777216 = X := by rw [← hX, hK, hO]
  have hx0 : 0 ≤ X := by omega
  have hx1 : X < 4611686018427387904 + 16777216 := by omega
  rw [show fullM 16777216 c 0 = fullX 16777216 X 0 from by rw [← hE]; rfl]
  clear hE hK hO
  have hC := and24 c h0 h1
  rcases (show l < -1 ∨ l = -1 from by omega) with hm | rfl
  all_goals
    go_enter Try.func13, Try.ntmps13
    go_wp2_with (first | (go_at_call 15; refine (bytesR_any _ _).mono ?_; rintro e w' ⟨rfl, rfl⟩))
    all_goals
      go_ret
      exact ⟨ret_of (by unfold fullX; split <;> (try split) <;> omega), rfl⟩

theorem fullR_3b (c n l : Int) (w : World) (h0 : 0 ≤ c) (h1 : c ≤ 18446744073709551615) (hl0 : -9223372036854775808 ≤ l) (hl1 : l ≤ 9223372036854775807) (hb : bytesN n = 3) (h : 0 ≤ l ∧ l < 4611686018427387904) :
    Calls Try.prog 13 #[.int .u64 c, .int .i64 n, .int .i64 l] w fun e w' => e = .returned (.int .u64 (fullM (winN n) c (wantS l))) ∧ w = w' := by
  have hw := win3 hb
  have hW : wantS l = (l + 1) := by unfold wantS; rw [if_neg (by omega), if_pos h.2]
  rw [hw, hW]
  clear hW
  obtain ⟨hA, hB⟩ := h
  have hK : bits .andNot .u64 (l + 1) 16777215 = (l + 1) - (l + 1) % 16777216 := notU 24 (by decide) (l + 1) (by omega) (by omega)
  have hO : bits .or .u64 ((l + 1) - (l + 1) % 16777216) (c % 16777216) = (l + 1) - (l + 1) % 16777216 + c % 16777216 := orU 24 (by decide) (l + 1) c (by omega) (by omega)
  obtain ⟨X, hX⟩ : ∃ X, bits .or .u64 (bits .andNot .u64 (l + 1) 16777215) (c % 16777216) = X := ⟨_, rfl⟩
  have hE : (l + 1) - (l + 1) % 16777216 + c % 16777216 = X := by rw [← hX, hK, hO]
  have hx0 : 0 ≤ X := by omega
  have hx1 : X < 4611686018427387904 + 16777216 := by omega
  rw [show fullM 16777216 c (l + 1) = fullX 16777216 X (l + 1) from by rw [← hE]; rfl]
  clear hE hK hO
  have hC := and24 c h0 h1
  all_goals
    go_enter Try.func13, Try.ntmps13
    go_wp2_with (first | (go_at_call 15; refine (bytesR_any _ _).mono ?_; rintro e w' ⟨rfl, rfl⟩))
    all_goals
      go_ret
      exact ⟨ret_of (by unfold fullX; split <;> (try split) <;> omega), rfl⟩

theorem fullR_3c (c n l : Int) (w : World) (h0 : 0 ≤ c) (h1 : c ≤ 18446744073709551615) (hl0 : -9223372036854775808 ≤ l) (hl1 : l ≤ 9223372036854775807) (hb : bytesN n = 3) (h : 4611686018427387904 ≤ l) :
    Calls Try.prog 13 #[.int .u64 c, .int .i64 n, .int .i64 l] w fun e w' => e = .returned (.int .u64 (fullM (winN n) c (wantS l))) ∧ w = w' := by
  have hw := win3 hb
  have hW : wantS l = 4611686018427387904 := by unfold wantS; rw [if_neg (by omega), if_neg (by omega)]
  rw [hw, hW]
  clear hW
  have hK : bits .andNot .u64 4611686018427387904 16777215 = 4611686018427387904 - 4611686018427387904 % 16777216 := notU 24 (by decide) 4611686018427387904 (by omega) (by omega)
  have hO : bits .or .u64 (4611686018427387904 - 4611686018427387904 % 16777216) (c % 16777216) = 4611686018427387904 - 4611686018427387904 % 16777216 + c % 16777216 := orU 24 (by decide) 4611686018427387904 c (by omega) (by omega)
  obtain ⟨X, hX⟩ : ∃ X, bits .or .u64 (bits .andNot .u64 4611686018427387904 16777215) (c % 16777216) = X := ⟨_, rfl⟩
  have hE : 4611686018427387904 - 4611686018427387904 % 16777216 + c % 16777216 = X := by rw [← hX, hK, hO]
  have hx0 : 0 ≤ X := by omega
  have hx1 : X < 4611686018427387904 + 16777216 := by omega
  rw [show fullM 16777216 c 4611686018427387904 = fullX 16777216 X 4611686018427387904 from by rw [← hE]; rfl]
  clear hE hK hO
  have hC := and24 c h0 h1
  have hq1 : wrap64 9223372036854775808 = -9223372036854775808 := by unfold wrap64; rfl
  have hq2 : IntKind.u64.wrap (-9223372036854775808) = 9223372036854775808 := by rw [IntKind.wrap_u64]; rfl
  rcases (show l < 9223372036854775807 ∨ l = 9223372036854775807 from by omega) with hm | rfl
  all_goals
    go_enter Try.func13, Try.ntmps13
    go_wp2_with (first | (go_at_call 15; refine (bytesR_any _ _).mono ?_; rintro e w' ⟨rfl, rfl⟩))
    all_goals
      go_ret
      exact ⟨ret_of (by unfold fullX; split <;> (try split) <;> omega), rfl⟩

theorem fullR_4a (c n l : Int) (w : World) (h0 : 0 ≤ c) (h1 : c ≤ 18446744073709551615) (hl0 : -9223372036854775808 ≤ l) (hl1 : l ≤ 9223372036854775807) (hb : bytesN n = 4) (h : l < 0) :
    Calls Try.prog 13 #[.int .u64 c, .int .i64 n, .int .i64 l] w fun e w' => e = .returned (.int .u64 (fullM (winN n) c (wantS l))) ∧ w = w' := by
  have hw := win4 hb
  have hW : wantS l = 0 := by unfold wantS; rw [if_pos h]
  rw [hw, hW]
  clear hW
  have hK : bits .andNot .u64 0 4294967295 = 0 - 0 % 4294967296 := notU 32 (by decide) 0 (by omega) (by omega)
  have hO : bits .or .u64 (0 - 0 % 4294967296) (c % 4294967296) = 0 - 0 % 4294967296 + c % 4294967296 := orU 32 (by decide) 0 c (by omega) (by omega)
  obtain ⟨X, hX⟩ : ∃ X, bits .or .u64 (bits .andNot .u64 0 4294967295) (c % 4294967296) = X := ⟨_, rfl⟩
  have hE : 0 - 0 % 4294967296 + c % 4294967296 = X := by rw [← hX, hK, hO]
  have hx0 : 0 ≤ X := by omega
  have hx1 : X < 4611686018427387904 + 4294967296 := by omega
  rw [show fullM 4294967296 c 0 = fullX 4294967296 X 0 from by rw [← hE]; rfl]
  clear hE hK hO
  have hC := and32 c h0 h1
  rcases (show l < -1 ∨ l = -1 from by omega) with hm | rfl
  all_goals
    go_enter Try.func13, Try.ntmps13
    go_wp2_with (first | (go_at_call 15; refine (bytesR_any _ _).mono ?_; rintro e w' ⟨rfl, rfl⟩))
    all_goals
      go_ret
      exact ⟨ret_of (by unfold fullX; split <;> (try split) <;> omega), rfl⟩

theorem fullR_4b (c n l : Int) (w : World) (h0 : 0 ≤ c) (h1 : c ≤ 18446744073709551615) (hl0 : -9223372036854775808 ≤ l) (hl1 : l ≤ 9223372036854775807) (hb : bytesN n = 4) (h : 0 ≤ l ∧ l < 4611686018427387904) :
    Calls Try.prog 13 #[.int .u64 c, .int .i64 n, .int .i64 l] w fun e w' => e = .returned (.int .u64 (fullM (winN n) c (wantS l))) ∧ w = w' := by
  have hw := win4 hb
  have hW : wantS l = (l + 1) := by unfold wantS; rw [if_neg (by omega), if_pos h.2]
  rw [hw, hW]
  clear hW
  obtain ⟨hA, hB⟩ := h
  have hK : bits .andNot .u64 (l + 1) 4294967295 = (l + 1) - (l + 1) % 4294967296 := notU 32 (by decide) (l + 1) (by omega) (by omega)
  have hO : bits .or .u64 ((l + 1) - (l + 1) % 4294967296) (c % 4294967296) = (l + 1) - (l + 1) % 4294967296 + c % 4294967296 := orU 32 (by decide) (l + 1) c (by omega) (by omega)
  obtain ⟨X, hX⟩ : ∃ X, bits .or .u64 (bits .andNot .u64 (l + 1) 4294967295) (c % 4294967296) = X := ⟨_, rfl⟩
  have hE : (l + 1) - (l + 1) % 4294967296 + c % 4294967296 = X := by rw [← hX, hK, hO]
  have hx0 : 0 ≤ X := by omega
  have hx1 : X < 4611686018427387904 + 4294967296 := by omega
  rw [show fullM 4294967296 c (l + 1) = fullX 4294967296 X (l + 1) from by rw [← hE]; rfl]
  clear hE hK hO
  have hC := and32 c h0 h1
  all_goals
    go_enter Try.func13, Try.ntmps13
    go_wp2_with (first | (go_at_call 15; refine (bytesR_any _ _).mono ?_; rintro e w' ⟨rfl, rfl⟩))
    all_goals
      go_ret
      exact ⟨ret_of (by unfold fullX; split <;> (try split) <;> omega), rfl⟩

theorem fullR_4c (c n l : Int) (w : World) (h0 : 0 ≤ c) (h1 : c ≤ 18446744073709551615) (hl0 : -9223372036854775808 ≤ l) (hl1 : l ≤ 9223372036854775807) (hb : bytesN n = 4) (h : 4611686018427387904 ≤ l) :
    Calls Try.prog 13 #[.int .u64 c, .int .i64 n, .int .i64 l] w fun e w' => e = .returned (.int .u64 (fullM (winN n) c (wantS l))) ∧ w = w' := by
  have hw := win4 hb
  have hW : wantS l = 4611686018427387904 := by unfold wantS; rw [if_neg (by omega), if_neg (by omega)]
  rw [hw, hW]
  clear hW
  have hK : bits .andNot .u64 4611686018427387904 4294967295 = 4611686018427387904 - 4611686018427387904 % 4294967296 := notU 32 (by decide) 4611686018427387904 (by omega) (by omega)
  have hO : bits .or .u64 (4611686018427387904 - 4611686018427387904 % 4294967296) (c % 4294967296) = 4611686018427387904 - 4611686018427387904 % 4294967296 + c % 4294967296 := orU 32 (by decide) 4611686018427387904 c (by omega) (by omega)
  obtain ⟨X, hX⟩ : ∃ X, bits .or .u64 (bits .andNot .u64 4611686018427387904 4294967295) (c % 4294967296) = X := ⟨_, rfl⟩
  have hE : 4611686018427387904 - 4611686018427387904 % 4294967296 + c % 4294967296 = X := by rw [← hX, hK, hO]
  have hx0 : 0 ≤ X := by omega
  have hx1 : X < 4611686018427387904 + 4294967296 := by omega
  rw [show fullM 4294967296 c 4611686018427387904 = fullX 4294967296 X 4611686018427387904 from by rw [← hE]; rfl]
  clear hE hK hO
  have hC := and32 c h0 h1
  have hq1 : wrap64 9223372036854775808 = -9223372036854775808 := by unfold wrap64; rfl
  have hq2 : IntKind.u64.wrap (-9223372036854775808) = 9223372036854775808 := by rw [IntKind.wrap_u64]; rfl
  rcases (show l < 9223372036854775807 ∨ l = 9223372036854775807 from by omega) with hm | rfl
  all_goals
    go_enter Try.func13, Try.ntmps13
    go_wp2_with (first | (go_at_call 15; refine (bytesR_any _ _).mono ?_; rintro e w' ⟨rfl, rfl⟩))
    all_goals
      go_ret
      exact ⟨ret_of (by unfold fullX; split <;> (try split) <;> omega), rfl⟩

theorem fullR_any (c n l : Int) (w : World) (h0 : 0 ≤ c) (h1 : c ≤ 18446744073709551615) (hl0 : -9223372036854775808 ≤ l) (hl1 : l ≤ 9223372036854775807) :
    Calls Try.prog 13 #[.int .u64 c, .int .i64 n, .int .i64 l] w fun e w' => e = .returned (.int .u64 (fullM (winN n) c (wantS l))) ∧ w = w' := by
  have hl : l < 0 ∨ (0 ≤ l ∧ l < 4611686018427387904) ∨ 4611686018427387904 ≤ l := by omega
  rcases bytesN_cases n with hb | hb | hb | hb <;> rcases hl with h | h | h
  · exact fullR_1a c n l w h0 h1 hl0 hl1 hb h
  · exact fullR_1b c n l w h0 h1 hl0 hl1 hb h
  · exact fullR_1c c n l w h0 h1 hl0 hl1 hb h
  · exact fullR_2a c n l w h0 h1 hl0 hl1 hb h
  · exact fullR_2b c n l w h0 h1 hl0 hl1 hb h
  · exact fullR_2c c n l w h0 h1 hl0 hl1 hb h
  · exact fullR_3a c n l w h0 h1 hl0 hl1 hb h
  · exact fullR_3b c n l w h0 h1 hl0 hl1 hb h
  · exact fullR_3c c n l w h0 h1 hl0 hl1 hb h
  · exact fullR_4a c n l w h0 h1 hl0 hl1 hb h
  · exact fullR_4b c n l w h0 h1 hl0 hl1 hb h
  · exact fullR_4c c n l w h0 h1 hl0 hl1 hb h

end Go.Proofs.Ytfkipjjdnhmijaa
