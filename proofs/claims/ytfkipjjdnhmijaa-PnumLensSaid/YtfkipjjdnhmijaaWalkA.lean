/- The walks of the functions of packets' numbers: each returns what the plain functions say; the world stays as it is. Conditions: the numbers fit their kinds. -/
import Derived.Test.YtfkipjjdnhmijaaRows
import Derived.Test.YtfkipjjdnhmijaaPlain
import Derived.WalkLawsBesides
import Derived.WalkSpells
import Derived.BigQuiet
import Derived.Deep.QuietTactic
import Derived.Lib.Hide
namespace Go.Proofs.Ytfkipjjdnhmijaa
open Go.RowKit

theorem bytesN_mid {n : Int} (h1 : 1 ≤ n) (h2 : n ≤ 4) : n = bytesN n := by unfold bytesN; rw [if_neg (by omega), if_neg (by omega)]

theorem bytes_any (n : Int) (w : World) : Calls Try.prog 14 #[.int .i64 n] w fun e w' => e = .returned (.int .u64 (bytesN n)) ∧ w = w' := by
  by_cases h1 : n < 1
  · go_enter Try.func14, Try.ntmps14
    go_wp2
    go_ret
    exact ⟨by simp [bytesN, h1], rfl⟩
  · by_cases h2 : 4 < n
    · go_enter Try.func14, Try.ntmps14
      go_wp2
      go_ret
      exact ⟨by simp [bytesN, h1, h2], rfl⟩
    · go_enter Try.func14, Try.ntmps14
      go_wp2
      go_ret
      exact ⟨by rw [← bytesN_mid (by omega) (by omega)]; rfl, rfl⟩

theorem bytesR_any (n : Int) (w : World) : Calls Try.prog 15 #[.int .i64 n] w fun e w' => e = .returned (.int .i64 (bytesN n)) ∧ w = w' := by
  by_cases h1 : n < 1
  · go_enter Try.func15, Try.ntmps15
    go_wp2
    go_ret
    exact ⟨by simp [bytesN, h1], rfl⟩
  · by_cases h2 : 4 < n
    · go_enter Try.func15, Try.ntmps15
      go_wp2
      go_ret
      exact ⟨by simp [bytesN, h1, h2], rfl⟩
    · go_enter Try.func15, Try.ntmps15
      go_wp2
      go_ret
      exact ⟨by rw [← bytesN_mid (by omega) (by omega)]; rfl, rfl⟩

theorem cut_any (pn n : Int) (w : World) (h0 : 0 ≤ pn) (h1 : pn ≤ 18446744073709551615) : Calls Try.prog 10 #[.int .u64 pn, .int .i64 n] w fun e w' => e = .returned (.int .u64 (pn % winN n)) ∧ w = w' := by
  have a1 := and255 pn h0 h1
  have a2 := and65535 pn h0 h1
  have a3 := and24 pn h0 h1
  have a4 := and32 pn h0 h1
  clear h0 h1
  rcases bytesN_cases n with hb | hb | hb | hb
  all_goals
    first | have hw := win1 hb | have hw := win2 hb | have hw := win3 hb | have hw := win4 hb
    go_enter Try.func10, Try.ntmps10
    go_wp2_with (go_at_call 14; refine (bytes_any _ _).mono ?_; rintro e w' ⟨rfl, rfl⟩)
    go_ret
    exact ⟨by rw [hw]; rfl, rfl⟩

theorem cutR_any (pn n : Int) (w : World) (h0 : 0 ≤ pn) (h1 : pn ≤ 18446744073709551615) : Calls Try.prog 11 #[.int .u64 pn, .int .i64 n] w fun e w' => e = .returned (.int .u64 (pn % winN n)) ∧ w = w' := by
  have a1 := and255 pn h0 h1
  have a2 := and65535 pn h0 h1
  have a3 := and24 pn h0 h1
  have a4 := and32 pn h0 h1
  clear h0 h1
  rcases bytesN_cases n with hb | hb | hb | hb
  all_goals
    first | have hw := win1 hb | have hw := win2 hb | have hw := win3 hb | have hw := win4 hb
    go_enter Try.func11, Try.ntmps11
    go_wp2_with (go_at_call 15; refine (bytesR_any _ _).mono ?_; rintro e w' ⟨rfl, rfl⟩)
    go_ret
    exact ⟨by rw [hw]; rfl, rfl⟩

end Go.Proofs.Ytfkipjjdnhmijaa
