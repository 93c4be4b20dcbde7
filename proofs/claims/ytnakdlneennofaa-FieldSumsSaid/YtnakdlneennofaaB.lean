/- The walks of names, values, pseudo names, the program's and the document's. Conditions: the text is no longer than any can be. -/
import Derived.Test.YtnakdlneennofaaA
namespace Go.Proofs.Ytnakdlneennofaa
open Go.RowKit

theorem okAt_all (c : Int) : okAt c 15 = signB c := by rfl
theorem okAt_zero (c : Int) : okAt c 0 = (decide (97 ≤ c ∧ c ≤ 122) || decide (48 ≤ c ∧ c ≤ 57)) := by simp [okAt]
theorem okAt_succ (c : Int) (n : Nat) (hn : n < 15) : okAt c (n + 1) = (okAt c n || c == signs.getD n 0) := by
  have e : signs.take (n + 1) = signs.take n ++ [signs.getD n 0] := by
    rw [List.take_succ_eq_append_getElem (by simpa [signs] using hn)]
    congr 1
    rw [List.getD_eq_getElem?_getD, List.getElem?_eq_getElem (by simpa [signs] using hn)]; rfl
  unfold okAt
  rw [e]
  have h2 : (signs.take n ++ [signs.getD n 0]).contains c = ((signs.take n).contains c || c == signs.getD n 0) := by
    rw [Bool.eq_iff_iff]; simp
  rw [h2]
  simp only [Bool.or_assoc]
theorem sign_at (n : Nat) (hn : n < 15) (h : n < ByteArray.size { data := #[33, 35, 36, 37, 38, 39, 42, 43, 45, 46, 94, 95, 96, 124, 126] }) :
    (((({ data := #[33, 35, 36, 37, 38, 39, 42, 43, 45, 46, 94, 95, 96, 124, 126] } : ByteArray)[n]'h).toNat : Nat) : Int) = signs.getD n 0 := by
  match n, hn with
  | 0, _ => rfl
  | 1, _ => rfl
  | 2, _ => rfl
  | 3, _ => rfl
  | 4, _ => rfl
  | 5, _ => rfl
  | 6, _ => rfl
  | 7, _ => rfl
  | 8, _ => rfl
  | 9, _ => rfl
  | 10, _ => rfl
  | 11, _ => rfl
  | 12, _ => rfl
  | 13, _ => rfl
  | 14, _ => rfl

theorem nameR_any (s : ByteArray) (w : World) (hs : s.size ≤ maxLen) : Calls Try.prog 9 #[.string s] w fun e w' => e = .returned (.bool (nameB s)) ∧ w = w' := by
  unfold maxLen at hs
  have HN := nameB_no s
  have HY := nameB_yes s
  generalize nameB s = r at *
  go_enter Try.func9, Try.ntmps9
  go_wp2
  go_loop [3] (fun i => ∃ k : Nat, k ≤ s.size ∧ i = .int .i64 k ∧ upTo s k) (fun i => s.size - (intOf i).toNat)
  case atStart => exact ⟨0, Nat.zero_le _, rfl, upTo_zero s⟩
  case round =>
    obtain ⟨k, hk, rfl, hu⟩ := hrel
    have HU := Lib.hid hu
    clear hu
    by_cases hlt : k < s.size
    · have hb := byte_bd s[k]
      obtain ⟨c, hc⟩ : ∃ c : Int, (s[k].toNat : Int) = c := ⟨_, rfl⟩
      have hc0 : 0 ≤ c := by omega
      have hc1 : c ≤ 255 := by omega
      rcases (show (97 ≤ c ∧ c ≤ 122) ∨ (48 ≤ c ∧ c ≤ 57) ∨ (c < 48) ∨ (57 < c ∧ c < 97) ∨ (57 < c ∧ 122 < c) from by omega) with ⟨h1, h2⟩ | ⟨h1, h2⟩ | h1 | ⟨h1, h2⟩ | ⟨h1, h2⟩
      case' inr.inr.inr.inl => have d1 : decide (c ≤ 57) = false := by simp; omega
      case' inr.inr.inr.inr => have d1 : decide (c ≤ 57) = false := by simp; omega
      case' inr.inr.inr.inr => have d2 : decide (c ≤ 122) = false := by simp; omega
      all_goals
        go_wp2
        go_loop [5, 6] (fun ok i => ∃ n : Nat, n ≤ 15 ∧ i = .int .i64 n ∧ ok = .bool (okAt c n)) (fun _ i => 15 - (intOf i).toNat)
        case atStart => exact ⟨0, by omega, rfl, by rw [okAt_zero]; congr 1; simp; omega⟩
        case round =>
          obtain ⟨n, hn, rfl, rfl⟩ := hrel
          by_cases hn15 : n < 15
          · have hsz : n < ByteArray.size { data := #[33, 35, 36, 37, 38, 39, 42, 43, 45, 46, 94, 95, 96, 124, 126] } := hn15
            have hsa := sign_at n hn15 hsz
            have hsucc := okAt_succ c n hn15
            have HS := Lib.hid hsucc
            clear hsucc
            cases hok : okAt c n with
            | true =>
              have HK := Lib.hid hok
              clear hok
              go_wp2
              go_round
              case rel => exact ⟨n + 1, by omega, by go_num, by rw [HS.out, HK.out]; rfl⟩
              case measure => simp [intOf]; omega
            | false =>
              have HK := Lib.hid hok
              clear hok
              go_wp2
              go_round
              case rel => exact ⟨n + 1, by omega, by go_num, by rw [HS.out, HK.out]; rfl⟩
              case measure => simp [intOf]; omega
          · obtain rfl : n = 15 := by omega
            cases hsg : signB c with
            | true =>
              have HS := upTo_succ s k hlt HU.out (by rw [hc]; exact hsg)
              have HS2 := Lib.hid HS
              clear HS
              have hok : okAt c 15 = true := hsg
              clear hsg
              go_wp2
              go_round
              case rel => exact ⟨k + 1, by omega, by go_num, HS2.out⟩
              case measure => simp [intOf]; omega
            | false =>
              have hr := HN k hlt (by rw [hc]; exact hsg)
              have HR := Lib.hid hr
              have hok : okAt c 15 = false := hsg
              clear hr hsg
              go_wp2
              go_ret
              exact ⟨by rw [HR.out]; rfl, rfl⟩
    · obtain rfl : s.size = k := by omega
      have hr := HY HU.out
      have HR := Lib.hid hr
      clear hr
      go_wp2
      go_ret
      exact ⟨by rw [HR.out]; rfl, rfl⟩
end Go.Proofs.Ytnakdlneennofaa
