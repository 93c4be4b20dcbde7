/- The walks of the statements on the nearest number and on counts of bytes: each returns true. Conditions: the numbers fit their kinds. -/
import Derived.Test.YtfkipjjdnhmijaaWalkD
import Derived.RowKit3
namespace Go.Proofs.Ytfkipjjdnhmijaa
open Go.RowKit
set_option linter.unusedVariables false

theorem near_full (k m c l X : Int) (w : World) (h0 : 0 ≤ c) (h1 : c ≤ 18446744073709551615) (hw : winN k = m) (hl : 0 ≤ l) (hl2 : l ≤ 4294967295) (hX : fullM m c (l + 1) = X) :
    Calls Try.prog 12 #[.int .u64 c, .int .i64 k, .int .i64 l] w fun e w' => e = .returned (.int .u64 X) ∧ w = w' := by
  have h := full_any c k l w h0 h1 (by omega) (by omega)
  rw [hw, show wantS l = l + 1 from by unfold wantS; rw [if_neg (by omega), if_pos (by omega)], hX] at h
  exact h

theorem near_0 (a0 a1 a2 : Int) (w : World) (h0 : 0 ≤ a0) (h1 : a0 ≤ 18446744073709551615) (h2 : 0 ≤ a1) (h3 : a1 ≤ 255) (h4 : 0 ≤ a2) (h5 : a2 ≤ 4294967295) (hr : a1 % 4 = 0) :
    Calls Try.prog 5 #[.int .u64 a0, .int .u8 a1, .int .u32 a2] w fun e w' => e = .returned (.bool true) ∧ w = w' := by
  have hw : winN 1 = 256 := by decide
  obtain ⟨X, hX⟩ : ∃ X, fullM 256 a0 (a2 + 1) = X := ⟨_, rfl⟩
  obtain ⟨x0, x1, hxm, hd⟩ := near_law 256 a0 a2 X (by omega) h4 h5 hX
  have HX := Lib.hid hX
  clear hX
  have b1 := and255 X x0 x1
  have b2 := and255 a0 h0 h1
  have hcut : ∀ w, Calls Try.prog 10 #[.int .u64 X, .int .i64 1] w fun e w' => e = .returned (.int .u64 (a0 % 256)) ∧ w = w' := by
    intro w
    have h := cut_any X 1 w x0 x1
    rw [hw, hxm] at h
    exact h
  have hcut2 : ∀ w, Calls Try.prog 10 #[.int .u64 a0, .int .i64 1] w fun e w' => e = .returned (.int .u64 (a0 % 256)) ∧ w = w' := by
    intro w
    have h := cut_any a0 1 w h0 h1
    rw [hw] at h
    exact h
  have H1 := Lib.hid hcut
  have H2 := Lib.hid hcut2
  clear hcut hcut2
  rcases hd with ⟨hd, hd2⟩ | ⟨hd, hd2⟩ | ⟨hd, hd2⟩
  all_goals
    go_enter Try.func5, Try.ntmps5
    go_wp2_with fail
    refine (known_any _).mono ?_
    rintro e w' ⟨rfl, rfl⟩
    go_wp2_with fail
    refine (near_full 1 256 a0 a2 X _ h0 h1 hw h4 h5 HX.out).mono ?_
    rintro e w' ⟨rfl, rfl⟩
    go_wp2_with fail
    refine (H1.out _).mono ?_
    rintro e w' ⟨rfl, rfl⟩
    go_wp2_with fail
    refine (H2.out _).mono ?_
    rintro e w' ⟨rfl, rfl⟩
    go_wp2_with fail
    all_goals
      go_ret
      exact ⟨by simp; try omega, rfl⟩

theorem near_1 (a0 a1 a2 : Int) (w : World) (h0 : 0 ≤ a0) (h1 : a0 ≤ 18446744073709551615) (h2 : 0 ≤ a1) (h3 : a1 ≤ 255) (h4 : 0 ≤ a2) (h5 : a2 ≤ 4294967295) (hr : a1 % 4 = 1) :
    Calls Try.prog 5 #[.int .u64 a0, .int .u8 a1, .int .u32 a2] w fun e w' => e = .returned (.bool true) ∧ w = w' := by
  have hw : winN 2 = 65536 := by decide
  obtain ⟨X, hX⟩ : ∃ X, fullM 65536 a0 (a2 + 1) = X := ⟨_, rfl⟩
  obtain ⟨x0, x1, hxm, hd⟩ := near_law 65536 a0 a2 X (by omega) h4 h5 hX
  have HX := Lib.hid hX
  clear hX
  have b1 := and65535 X x0 x1
  have b2 := and65535 a0 h0 h1
  have hcut : ∀ w, Calls Try.prog 10 #[.int .u64 X, .int .i64 2] w fun e w' => e = .returned (.int .u64 (a0 % 65536)) ∧ w = w' := by
    intro w
    have h := cut_any X 2 w x0 x1
    rw [hw, hxm] at h
    exact h
  have hcut2 : ∀ w, Calls Try.prog 10 #[.int .u64 a0, .int .i64 2] w fun e w' => e = .returned (.int .u64 (a0 % 65536)) ∧ w = w' := by
    intro w
    have h := cut_any a0 2 w h0 h1
    rw [hw] at h
    exact h
  have H1 := Lib.hid hcut
  have H2 := Lib.hid hcut2
  clear hcut hcut2
  rcases hd with ⟨hd, hd2⟩ | ⟨hd, hd2⟩ | ⟨hd, hd2⟩
  all_goals
    go_enter Try.func5, Try.ntmps5
    go_wp2_with fail
    refine (known_any _).mono ?_
    rintro e w' ⟨rfl, rfl⟩
    go_wp2_with fail
    refine (near_full 2 65536 a0 a2 X _ h0 h1 hw h4 h5 HX.out).mono ?_
    rintro e w' ⟨rfl, rfl⟩
    go_wp2_with fail
    refine (H1.out _).mono ?_
    rintro e w' ⟨rfl, rfl⟩
    go_wp2_with fail
    refine (H2.out _).mono ?_
    rintro e w' ⟨rfl, rfl⟩
    go_wp2_with fail
    all_goals
      go_ret
      exact ⟨by simp; try omega, rfl⟩

theorem near_2 (a0 a1 a2 : Int) (w : World) (h0 : 0 ≤ a0) (h1 : a0 ≤ 18446744073709551615) (h2 : 0 ≤ a1) (h3 : a1 ≤ 255) (h4 : 0 ≤ a2) (h5 : a2 ≤ 4294967295) (hr : a1 % 4 = 2) :
    Calls Try.prog 5 #[.int .u64 a0, .int .u8 a1, .int .u32 a2] w fun e w' => e = .returned (.bool true) ∧ w = w' := by
  have hw : winN 3 = 16777216 := by decide
  obtain ⟨X, hX⟩ : ∃ X, fullM 16777216 a0 (a2 + 1) = X := ⟨_, rfl⟩
  obtain ⟨x0, x1, hxm, hd⟩ := near_law 16777216 a0 a2 X (by omega) h4 h5 hX
  have HX := Lib.hid hX
  clear hX
  have b1 := and24 X x0 x1
  have b2 := and24 a0 h0 h1
  have hcut : ∀ w, Calls Try.prog 10 #[.int .u64 X, .int .i64 3] w fun e w' => e = .returned (.int .u64 (a0 % 16777216)) ∧ w = w' := by
    intro w
    have h := cut_any X 3 w x0 x1
    rw [hw, hxm] at h
    exact h
  have hcut2 : ∀ w, Calls Try.prog 10 #[.int .u64 a0, .int .i64 3] w fun e w' => e = .returned (.int .u64 (a0 % 16777216)) ∧ w = w' := by
    intro w
    have h := cut_any a0 3 w h0 h1
    rw [hw] at h
    exact h
  have H1 := Lib.hid hcut
  have H2 := Lib.hid hcut2
  clear hcut hcut2
  rcases hd with ⟨hd, hd2⟩ | ⟨hd, hd2⟩ | ⟨hd, hd2⟩
  all_goals
    go_enter Try.func5, Try.ntmps5
    go_wp2_with fail
    refine (known_any _).mono ?_
    rintro e w' ⟨rfl, rfl⟩
    go_wp2_with fail
    refine (near_full 3 16777216 a0 a2 X _ h0 h1 hw h4 h5 HX.out).mono ?_
    rintro e w' ⟨rfl, rfl⟩
    go_wp2_with fail
    refine (H1.out _).mono ?_
    rintro e w' ⟨rfl, rfl⟩
    go_wp2_with fail
    refine (H2.out _).mono ?_
    rintro e w' ⟨rfl, rfl⟩
    go_wp2_with fail
    all_goals
      go_ret
      exact ⟨by simp; try omega, rfl⟩

theorem near_3 (a0 a1 a2 : Int) (w : World) (h0 : 0 ≤ a0) (h1 : a0 ≤ 18446744073709551615) (h2 : 0 ≤ a1) (h3 : a1 ≤ 255) (h4 : 0 ≤ a2) (h5 : a2 ≤ 4294967295) (hr : a1 % 4 = 3) :
    Calls Try.prog 5 #[.int .u64 a0, .int .u8 a1, .int .u32 a2] w fun e w' => e = .returned (.bool true) ∧ w = w' := by
  have hw : winN 4 = 4294967296 := by decide
  obtain ⟨X, hX⟩ : ∃ X, fullM 4294967296 a0 (a2 + 1) = X := ⟨_, rfl⟩
  obtain ⟨x0, x1, hxm, hd⟩ := near_law 4294967296 a0 a2 X (by omega) h4 h5 hX
  have HX := Lib.hid hX
  clear hX
  have b1 := and32 X x0 x1
  have b2 := and32 a0 h0 h1
  have hcut : ∀ w, Calls Try.prog 10 #[.int .u64 X, .int .i64 4] w fun e w' => e = .returned (.int .u64 (a0 % 4294967296)) ∧ w = w' := by
    intro w
    have h := cut_any X 4 w x0 x1
    rw [hw, hxm] at h
    exact h
  have hcut2 : ∀ w, Calls Try.prog 10 #[.int .u64 a0, .int .i64 4] w fun e w' => e = .returned (.int .u64 (a0 % 4294967296)) ∧ w = w' := by
    intro w
    have h := cut_any a0 4 w h0 h1
    rw [hw] at h
    exact h
  have H1 := Lib.hid hcut
  have H2 := Lib.hid hcut2
  clear hcut hcut2
  rcases hd with ⟨hd, hd2⟩ | ⟨hd, hd2⟩ | ⟨hd, hd2⟩
  all_goals
    go_enter Try.func5, Try.ntmps5
    go_wp2_with fail
    refine (known_any _).mono ?_
    rintro e w' ⟨rfl, rfl⟩
    go_wp2_with fail
    refine (near_full 4 4294967296 a0 a2 X _ h0 h1 hw h4 h5 HX.out).mono ?_
    rintro e w' ⟨rfl, rfl⟩
    go_wp2_with fail
    refine (H1.out _).mono ?_
    rintro e w' ⟨rfl, rfl⟩
    go_wp2_with fail
    refine (H2.out _).mono ?_
    rintro e w' ⟨rfl, rfl⟩
    go_wp2_with fail
    all_goals
      go_ret
      exact ⟨by simp; try omega, rfl⟩

theorem near_walk (a0 a1 a2 : Int) (w : World) (h0 : 0 ≤ a0) (h1 : a0 ≤ 18446744073709551615) (h2 : 0 ≤ a1) (h3 : a1 ≤ 255) (h4 : 0 ≤ a2) (h5 : a2 ≤ 4294967295) :
    Calls Try.prog 5 #[.int .u64 a0, .int .u8 a1, .int .u32 a2] w fun e w' => e = .returned (.bool true) ∧ w = w' := by
  rcases (show a1 % 4 = 0 ∨ a1 % 4 = 1 ∨ a1 % 4 = 2 ∨ a1 % 4 = 3 from by omega) with h | h | h | h
  · exact near_0 a0 a1 a2 w h0 h1 h2 h3 h4 h5 h
  · exact near_1 a0 a1 a2 w h0 h1 h2 h3 h4 h5 h
  · exact near_2 a0 a1 a2 w h0 h1 h2 h3 h4 h5 h
  · exact near_3 a0 a1 a2 w h0 h1 h2 h3 h4 h5 h

theorem lens1 (D k a : Int) (w : World) (h0 : 0 ≤ a) (h1 : a ≤ 4294967295) (hD : 1 ≤ D) (hD2 : D ≤ 8388609) (hk : lenD D = k) :
    Calls Try.prog 8 #[.int .u64 (a + D), .int .i64 a] w fun e w' => e = .returned (.int .i64 k) ∧ w = w' := by
  have h := len_any (a + D) a w (by omega) (by omega) (by omega)
  rw [show lenS (a + D) a = k from by unfold lenS; rw [if_neg (by omega), if_neg (by omega), show a + D - a = D from by omega, hk]] at h
  exact h
theorem lens2 (D k : Int) (w : World) (hD : 0 ≤ D) (hD2 : D ≤ 8388609) (hk : lenD (D + 1) = k) :
    Calls Try.prog 8 #[.int .u64 D, .int .i64 (-1)] w fun e w' => e = .returned (.int .i64 k) ∧ w = w' := by
  have h := len_any D (-1) w (by omega) (by omega) (by omega)
  rw [show lenS D (-1) = k from by unfold lenS; rw [if_pos (by omega), if_neg (by omega), hk]] at h
  exact h
theorem lens3 (a : Int) (w : World) (h0 : 0 ≤ a) (h1 : a ≤ 4294967295) :
    Calls Try.prog 8 #[.int .u64 a, .int .i64 a] w fun e w' => e = .returned (.int .i64 1) ∧ w = w' :=
  len_one a a w h0 h0 (by omega) (by omega)

theorem lens_0m (a0 a1 a2 : Int) (w : World) (h0 : 0 ≤ a0) (h1 : a0 ≤ 255) (h2 : 0 ≤ a1) (h3 : a1 ≤ 4294967295) (h4 : -128 ≤ a2) (h5 : a2 ≤ 127) (hr : a0 % 3 = 0) (hs : a2.tmod 2 = -1) :
    Calls Try.prog 6 #[.int .u8 a0, .int .u32 a1, .int .i8 a2] w fun e w' => e = .returned (.bool true) ∧ Grown w w' := by
  have hu : IntKind.u64.wrap (128 + IntKind.u64.wrap (-1)) = 127 := by rw [IntKind.wrap_u64, IntKind.wrap_u64]; rfl
  go_enter Try.func6, Try.ntmps6
  go_wp2_with fail
  refine (known_any _).mono ?_
  rintro e w' ⟨rfl, rfl⟩
  go_wp2_with fail
  refine (lens1 127 1 a1 _ h2 h3 (by omega) (by omega) (by decide)).mono ?_
  rintro e w' ⟨rfl, rfl⟩
  go_wp2_with fail
  refine (lens2 126 1 _ (by omega) (by omega) (by decide)).mono ?_
  rintro e w' ⟨rfl, rfl⟩
  go_wp2_with fail
  refine (lens3 a1 _ h2 h3).mono ?_
  rintro e w' ⟨rfl, rfl⟩
  go_wp2_with fail
  go_ret
  exact ⟨rfl, by repeat (first | exact Grown.refl _ | apply Grown.drew | apply Grown.alloc)⟩

theorem lens_0z (a0 a1 a2 : Int) (w : World) (h0 : 0 ≤ a0) (h1 : a0 ≤ 255) (h2 : 0 ≤ a1) (h3 : a1 ≤ 4294967295) (h4 : -128 ≤ a2) (h5 : a2 ≤ 127) (hr : a0 % 3 = 0) (hs : a2.tmod 2 = 0) :
    Calls Try.prog 6 #[.int .u8 a0, .int .u32 a1, .int .i8 a2] w fun e w' => e = .returned (.bool true) ∧ Grown w w' := by
  go_enter Try.func6, Try.ntmps6
  go_wp2_with fail
  refine (known_any _).mono ?_
  rintro e w' ⟨rfl, rfl⟩
  go_wp2_with fail
  refine (lens1 128 2 a1 _ h2 h3 (by omega) (by omega) (by decide)).mono ?_
  rintro e w' ⟨rfl, rfl⟩
  go_wp2_with fail
  refine (lens2 127 2 _ (by omega) (by omega) (by decide)).mono ?_
  rintro e w' ⟨rfl, rfl⟩
  go_wp2_with fail
  refine (lens3 a1 _ h2 h3).mono ?_
  rintro e w' ⟨rfl, rfl⟩
  go_wp2_with fail
  go_ret
  exact ⟨rfl, by repeat (first | exact Grown.refl _ | apply Grown.drew | apply Grown.alloc)⟩

theorem lens_0p (a0 a1 a2 : Int) (w : World) (h0 : 0 ≤ a0) (h1 : a0 ≤ 255) (h2 : 0 ≤ a1) (h3 : a1 ≤ 4294967295) (h4 : -128 ≤ a2) (h5 : a2 ≤ 127) (hr : a0 % 3 = 0) (hs : a2.tmod 2 = 1) :
    Calls Try.prog 6 #[.int .u8 a0, .int .u32 a1, .int .i8 a2] w fun e w' => e = .returned (.bool true) ∧ Grown w w' := by
  go_enter Try.func6, Try.ntmps6
  go_wp2_with fail
  refine (known_any _).mono ?_
  rintro e w' ⟨rfl, rfl⟩
  go_wp2_with fail
  refine (lens1 129 2 a1 _ h2 h3 (by omega) (by omega) (by decide)).mono ?_
  rintro e w' ⟨rfl, rfl⟩
  go_wp2_with fail
  refine (lens2 128 2 _ (by omega) (by omega) (by decide)).mono ?_
  rintro e w' ⟨rfl, rfl⟩
  go_wp2_with fail
  refine (lens3 a1 _ h2 h3).mono ?_
  rintro e w' ⟨rfl, rfl⟩
  go_wp2_with fail
  go_ret
  exact ⟨rfl, by repeat (first | exact Grown.refl _ | apply Grown.drew | apply Grown.alloc)⟩

theorem lens_1m (a0 a1 a2 : Int) (w : World) (h0 : 0 ≤ a0) (h1 : a0 ≤ 255) (h2 : 0 ≤ a1) (h3 : a1 ≤ 4294967295) (h4 : -128 ≤ a2) (h5 : a2 ≤ 127) (hr : a0 % 3 = 1) (hs : a2.tmod 2 = -1) :
    Calls Try.prog 6 #[.int .u8 a0, .int .u32 a1, .int .i8 a2] w fun e w' => e = .returned (.bool true) ∧ Grown w w' := by
  have hu : IntKind.u64.wrap (32768 + IntKind.u64.wrap (-1)) = 32767 := by rw [IntKind.wrap_u64, IntKind.wrap_u64]; rfl
  go_enter Try.func6, Try.ntmps6
  go_wp2_with fail
  refine (known_any _).mono ?_
  rintro e w' ⟨rfl, rfl⟩
  go_wp2_with fail
  refine (lens1 32767 2 a1 _ h2 h3 (by omega) (by omega) (by decide)).mono ?_
  rintro e w' ⟨rfl, rfl⟩
  go_wp2_with fail
  refine (lens2 32766 2 _ (by omega) (by omega) (by decide)).mono ?_
  rintro e w' ⟨rfl, rfl⟩
  go_wp2_with fail
  refine (lens3 a1 _ h2 h3).mono ?_
  rintro e w' ⟨rfl, rfl⟩
  go_wp2_with fail
  go_ret
  exact ⟨rfl, by repeat (first | exact Grown.refl _ | apply Grown.drew | apply Grown.alloc)⟩

theorem lens_1z (a0 a1 a2 : Int) (w : World) (h0 : 0 ≤ a0) (h1 : a0 ≤ 255) (h2 : 0 ≤ a1) (h3 : a1 ≤ 4294967295) (h4 : -128 ≤ a2) (h5 : a2 ≤ 127) (hr : a0 % 3 = 1) (hs : a2.tmod 2 = 0) :
    Calls Try.prog 6 #[.int .u8 a0, .int .u32 a1, .int .i8 a2] w fun e w' => e = .returned (.bool true) ∧ Grown w w' := by
  go_enter Try.func6, Try.ntmps6
  go_wp2_with fail
  refine (known_any _).mono ?_
  rintro e w' ⟨rfl, rfl⟩
  go_wp2_with fail
  refine (lens1 32768 3 a1 _ h2 h3 (by omega) (by omega) (by decide)).mono ?_
  rintro e w' ⟨rfl, rfl⟩
  go_wp2_with fail
  refine (lens2 32767 3 _ (by omega) (by omega) (by decide)).mono ?_
  rintro e w' ⟨rfl, rfl⟩
  go_wp2_with fail
  refine (lens3 a1 _ h2 h3).mono ?_
  rintro e w' ⟨rfl, rfl⟩
  go_wp2_with fail
  go_ret
  exact ⟨rfl, by repeat (first | exact Grown.refl _ | apply Grown.drew | apply Grown.alloc)⟩

theorem lens_1p (a0 a1 a2 : Int) (w : World) (h0 : 0 ≤ a0) (h1 : a0 ≤ 255) (h2 : 0 ≤ a1) (h3 : a1 ≤ 4294967295) (h4 : -128 ≤ a2) (h5 : a2 ≤ 127) (hr : a0 % 3 = 1) (hs : a2.tmod 2 = 1) :
    Calls Try.prog 6 #[.int .u8 a0, .int .u32 a1, .int .i8 a2] w fun e w' => e = .returned (.bool true) ∧ Grown w w' := by
  go_enter Try.func6, Try.ntmps6
  go_wp2_with fail
  refine (known_any _).mono ?_
  rintro e w' ⟨rfl, rfl⟩
  go_wp2_with fail
  refine (lens1 32769 3 a1 _ h2 h3 (by omega) (by omega) (by decide)).mono ?_
  rintro e w' ⟨rfl, rfl⟩
  go_wp2_with fail
  refine (lens2 32768 3 _ (by omega) (by omega) (by decide)).mono ?_
  rintro e w' ⟨rfl, rfl⟩
  go_wp2_with fail
  refine (lens3 a1 _ h2 h3).mono ?_
  rintro e w' ⟨rfl, rfl⟩
  go_wp2_with fail
  go_ret
  exact ⟨rfl, by repeat (first | exact Grown.refl _ | apply Grown.drew | apply Grown.alloc)⟩

theorem lens_2m (a0 a1 a2 : Int) (w : World) (h0 : 0 ≤ a0) (h1 : a0 ≤ 255) (h2 : 0 ≤ a1) (h3 : a1 ≤ 4294967295) (h4 : -128 ≤ a2) (h5 : a2 ≤ 127) (hr : a0 % 3 = 2) (hs : a2.tmod 2 = -1) :
    Calls Try.prog 6 #[.int .u8 a0, .int .u32 a1, .int .i8 a2] w fun e w' => e = .returned (.bool true) ∧ Grown w w' := by
  have hu : IntKind.u64.wrap (8388608 + IntKind.u64.wrap (-1)) = 8388607 := by rw [IntKind.wrap_u64, IntKind.wrap_u64]; rfl
  go_enter Try.func6, Try.ntmps6
  go_wp2_with fail
  refine (known_any _).mono ?_
  rintro e w' ⟨rfl, rfl⟩
  go_wp2_with fail
  refine (lens1 8388607 3 a1 _ h2 h3 (by omega) (by omega) (by decide)).mono ?_
  rintro e w' ⟨rfl, rfl⟩
  go_wp2_with fail
  refine (lens2 8388606 3 _ (by omega) (by omega) (by decide)).mono ?_
  rintro e w' ⟨rfl, rfl⟩
  go_wp2_with fail
  refine (lens3 a1 _ h2 h3).mono ?_
  rintro e w' ⟨rfl, rfl⟩
  go_wp2_with fail
  go_ret
  exact ⟨rfl, by repeat (first | exact Grown.refl _ | apply Grown.drew | apply Grown.alloc)⟩

theorem lens_2z (a0 a1 a2 : Int) (w : World) (h0 : 0 ≤ a0) (h1 : a0 ≤ 255) (h2 : 0 ≤ a1) (h3 : a1 ≤ 4294967295) (h4 : -128 ≤ a2) (h5 : a2 ≤ 127) (hr : a0 % 3 = 2) (hs : a2.tmod 2 = 0) :
    Calls Try.prog 6 #[.int .u8 a0, .int .u32 a1, .int .i8 a2] w fun e w' => e = .returned (.bool true) ∧ Grown w w' := by
  go_enter Try.func6, Try.ntmps6
  go_wp2_with fail
  refine (known_any _).mono ?_
  rintro e w' ⟨rfl, rfl⟩
  go_wp2_with fail
  refine (lens1 8388608 4 a1 _ h2 h3 (by omega) (by omega) (by decide)).mono ?_
  rintro e w' ⟨rfl, rfl⟩
  go_wp2_with fail
  refine (lens2 8388607 4 _ (by omega) (by omega) (by decide)).mono ?_
  rintro e w' ⟨rfl, rfl⟩
  go_wp2_with fail
  refine (lens3 a1 _ h2 h3).mono ?_
  rintro e w' ⟨rfl, rfl⟩
  go_wp2_with fail
  go_ret
  exact ⟨rfl, by repeat (first | exact Grown.refl _ | apply Grown.drew | apply Grown.alloc)⟩

theorem lens_2p (a0 a1 a2 : Int) (w : World) (h0 : 0 ≤ a0) (h1 : a0 ≤ 255) (h2 : 0 ≤ a1) (h3 : a1 ≤ 4294967295) (h4 : -128 ≤ a2) (h5 : a2 ≤ 127) (hr : a0 % 3 = 2) (hs : a2.tmod 2 = 1) :
    Calls Try.prog 6 #[.int .u8 a0, .int .u32 a1, .int .i8 a2] w fun e w' => e = .returned (.bool true) ∧ Grown w w' := by
  go_enter Try.func6, Try.ntmps6
  go_wp2_with fail
  refine (known_any _).mono ?_
  rintro e w' ⟨rfl, rfl⟩
  go_wp2_with fail
  refine (lens1 8388609 4 a1 _ h2 h3 (by omega) (by omega) (by decide)).mono ?_
  rintro e w' ⟨rfl, rfl⟩
  go_wp2_with fail
  refine (lens2 8388608 4 _ (by omega) (by omega) (by decide)).mono ?_
  rintro e w' ⟨rfl, rfl⟩
  go_wp2_with fail
  refine (lens3 a1 _ h2 h3).mono ?_
  rintro e w' ⟨rfl, rfl⟩
  go_wp2_with fail
  go_ret
  exact ⟨rfl, by repeat (first | exact Grown.refl _ | apply Grown.drew | apply Grown.alloc)⟩

theorem lens_walk (a0 a1 a2 : Int) (w : World) (h0 : 0 ≤ a0) (h1 : a0 ≤ 255) (h2 : 0 ≤ a1) (h3 : a1 ≤ 4294967295) (h4 : -128 ≤ a2) (h5 : a2 ≤ 127) :
    Calls Try.prog 6 #[.int .u8 a0, .int .u32 a1, .int .i8 a2] w fun e w' => e = .returned (.bool true) ∧ Grown w w' := by
  have hs : a2.tmod 2 = -1 ∨ a2.tmod 2 = 0 ∨ a2.tmod 2 = 1 := by
    rcases Int.le_total 0 a2 with h | h
    · rw [Int.tmod_eq_emod_of_nonneg h]; omega
    · have e : a2.tmod 2 = -((-a2).tmod 2) := by rw [Int.neg_tmod]; omega
      rw [e, Int.tmod_eq_emod_of_nonneg (by omega)]; omega
  rcases (show a0 % 3 = 0 ∨ a0 % 3 = 1 ∨ a0 % 3 = 2 from by omega) with h | h | h <;> rcases hs with s | s | s
  · exact lens_0m a0 a1 a2 w h0 h1 h2 h3 h4 h5 h s
  · exact lens_0z a0 a1 a2 w h0 h1 h2 h3 h4 h5 h s
  · exact lens_0p a0 a1 a2 w h0 h1 h2 h3 h4 h5 h s
  · exact lens_1m a0 a1 a2 w h0 h1 h2 h3 h4 h5 h s
  · exact lens_1z a0 a1 a2 w h0 h1 h2 h3 h4 h5 h s
  · exact lens_1p a0 a1 a2 w h0 h1 h2 h3 h4 h5 h s
  · exact lens_2m a0 a1 a2 w h0 h1 h2 h3 h4 h5 h s
  · exact lens_2z a0 a1 a2 w h0 h1 h2 h3 h4 h5 h s
  · exact lens_2p a0 a1 a2 w h0 h1 h2 h3 h4 h5 h s
end Go.Proofs.Ytfkipjjdnhmijaa
