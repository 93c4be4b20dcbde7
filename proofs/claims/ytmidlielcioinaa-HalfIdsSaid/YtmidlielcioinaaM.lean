/- The walk of HalfIds. Conditions: none. -/
import Derived.Test.YtmidlielcioinaaL
namespace Go.Proofs.Ytmidlielcioinaa
open Go.RowKit

theorem nthV_lt (n : Nat) (c d : Bool) : nthV n c d < 18446744073709551616 := by
  unfold nthV
  cases c <;> cases d <;> simp <;> omega
theorem nthV_s (n : Nat) (c d : Bool) : decide (nthV n c d % 2 = 1) = c := by
  unfold nthV
  cases c <;> cases d <;> simp <;> omega
theorem nthV_u (n : Nat) (c d : Bool) : decide (nthV n c d / 2 % 2 = 1) = d := by
  unfold nthV
  cases c <;> cases d <;> simp <;> omega
theorem nthV_id (id : Nat) (h : id ≤ 4611686018427387903) : nthV (id / 4) (decide (id % 2 = 1)) (decide (id / 2 % 2 = 1)) = id := by
  unfold nthV
  rcases Nat.mod_two_eq_zero_or_one id with a | a <;> rcases Nat.mod_two_eq_zero_or_one (id / 2) with b | b <;> rw [a, b] <;> simp <;> omega

theorem ids_walk (w : World) (n id : Nat) (c d : Bool) (hid : id < 18446744073709551616) : Calls Try.prog 4 #[.int .u64 (n : Int), .bool c, .bool d, .int .u64 (id : Int)] w fun e w' => e = .returned (.bool true) ∧ Touch [] w w' := by
  obtain ⟨x, hx⟩ : ∃ x, x = nthV n c d := ⟨_, rfl⟩
  have HX := Lib.hid hx
  have hxl : Hid (x < 18446744073709551616) := Lib.hid (by rw [hx]; exact nthV_lt n c d)
  have hxs : Hid (decide (x % 2 = 1) = c) := Lib.hid (by rw [hx]; exact nthV_s n c d)
  have hxu : Hid (decide (x / 2 % 2 = 1) = d) := Lib.hid (by rw [hx]; exact nthV_u n c d)
  have e1 := and1 id hid
  have e2 := and2 id hid
  have HI := Lib.hid hid
  obtain ⟨s, hs⟩ : ∃ s, s = decide (id % 2 = 1) := ⟨_, rfl⟩
  obtain ⟨u, hu⟩ : ∃ u, u = decide (id / 2 % 2 = 1) := ⟨_, rfl⟩
  have HS := Lib.hid hs
  have HU := Lib.hid hu
  have HD : Hid (id ≤ 4611686018427387903 → nthV (id / 4) s u = id) := Lib.hid (fun h => by rw [hs, hu]; exact nthV_id id h)
  have E1 : bits .and .u64 (id : Int) 1 = if s then 1 else 0 := by
    rw [e1, hs]
    rcases Nat.mod_two_eq_zero_or_one id with a | a <;> rw [a] <;> rfl
  have E2 : bits .and .u64 (id : Int) 2 = if u then 2 else 0 := by
    rw [e2, hu]
    rcases Nat.mod_two_eq_zero_or_one (id / 2) with a | a <;> rw [a] <;> rfl
  clear hx hs hu e1 e2
  go_enter Try.func4, Try.ntmps4
  go_wp2_with fail
  refine (known_any _).mono ?_
  rintro e w1 ⟨rfl, k⟩
  have T1 := Lib.hid k
  clear k
  go_wp2_with fail
  refine (nth_any _ n c d).mono ?_
  rw [← HX.out]
  rintro e w2 ⟨rfl, rfl⟩
  go_wp2_with fail
  refine (kind_any _ x hxl.out).mono ?_
  rw [hxs.out, hxu.out]
  rintro e w3 ⟨rfl, rfl⟩
  go_wp2_with fail
  refine (kind_any _ id HI.out).mono ?_
  rw [← HS.out, ← HU.out]
  rintro e w4 ⟨rfl, rfl⟩
  go_wp2_with fail
  refine (refNth_any _ n c d).mono ?_
  rw [← HX.out]
  rintro e w5 ⟨rfl, rfl⟩
  by_cases hm : (id : Int) ≤ 4611686018427387903
  · have HN : Hid (nthV (id / 4) s u = id) := Lib.hid (HD.out (by omega))
    cases s <;> cases u
    all_goals
      go_wp2_with fail
      refine (nth_any _ (id / 4) _ _).mono ?_
      rw [HN.out]
      rintro e w6 ⟨rfl, rfl⟩
      go_wp2_with fail
      go_ret
      exact ⟨rfl, T1.out⟩
  · cases s <;> cases u
    all_goals
      go_wp2_with fail
      go_ret
      exact ⟨rfl, T1.out⟩
end Go.Proofs.Ytmidlielcioinaa
