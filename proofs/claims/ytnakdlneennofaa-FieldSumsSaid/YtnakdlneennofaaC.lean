/- The walks of values and pseudo names, the program's and the document's. Conditions: the text is no longer than any can be. -/
import Derived.Test.YtnakdlneennofaaB
namespace Go.Proofs.Ytnakdlneennofaa
open Go.RowKit

def badB (c : Int) : Bool := c == 0 || c == 13 || c == 10
def valueB (s : ByteArray) : Bool := if h : 0 < s.size then (s.data.toList.all fun c => !badB c.toNat) && (!blankB s[0].toNat && !blankB (s[s.size - 1]'(by omega)).toNat) else true
def upV (s : ByteArray) (k : Nat) : Prop := ∀ j (h : j < s.size), j < k → badB s[j].toNat = false
theorem upV_zero (s : ByteArray) : upV s 0 := fun _ _ h => absurd h (by omega)
theorem upV_succ (s : ByteArray) (k : Nat) (hk : k < s.size) (h : upV s k) (hs : badB s[k].toNat = false) : upV s (k + 1) := by
  intro j hj hjk
  by_cases e : j = k
  · subst e; exact hs
  · exact h j hj (by omega)
theorem valueB_no (s : ByteArray) (k : Nat) (hk : k < s.size) (h : badB s[k].toNat = true) : valueB s = false := by
  unfold valueB
  rw [dif_pos (by omega), Bool.and_eq_false_iff]
  left
  rw [List.all_eq_false]
  refine ⟨s[k], ?_, by rw [h]; simp⟩
  have : s[k] = s.data.toList[k]'(by simpa using hk) := rfl
  rw [this]; exact List.getElem_mem _
theorem valueB_yes (s : ByteArray) (h0 : 0 < s.size) (h : upV s s.size) : valueB s = (!blankB s[0].toNat && !blankB (s[s.size - 1]'(by omega)).toNat) := by
  unfold valueB
  rw [dif_pos h0]
  have : (s.data.toList.all fun c => !badB c.toNat) = true := by
    rw [List.all_eq_true]
    intro x hx
    obtain ⟨j, hj, rfl⟩ := List.getElem_of_mem hx
    have h2 := h j (by simpa using hj) (by simpa using hj)
    have e : s[j]'(by simpa using hj) = s.data.toList[j] := rfl
    rw [e] at h2
    rw [h2]; rfl
  rw [this, Bool.true_and]
theorem valueB_nil (s : ByteArray) (h0 : s.size = 0) : valueB s = true := by unfold valueB; rw [dif_neg (by omega)]
theorem isEmpty_pos (s : ByteArray) (h : 0 < s.size) : s.toList.isEmpty = false := by
  rw [ByteArray.toList_eq]
  have hl : s.data.toList.length = s.size := by simp
  cases hd : s.data.toList with
  | nil => rw [hd] at hl; simp at hl; omega
  | cons a l => rfl

theorem ret_b {a b : Bool} (h : a = b) : Ending.returned (.bool a) = .returned (.bool b) := by rw [h]

theorem value_any (s : ByteArray) (w : World) (hs : s.size ≤ maxLen) : Calls Try.prog 10 #[.string s] w fun e w' => e = .returned (.bool (valueB s)) ∧ w = w' := by
  unfold maxLen at hs
  have HN := valueB_no s
  have HY := valueB_yes s
  have HE := valueB_nil s
  generalize valueB s = r at *
  by_cases h0 : s.size = 0
  · have hr := HE h0
    subst hr
    obtain rfl : s = ByteArray.empty := ByteArray.size_eq_zero_iff.1 h0
    clear HN HY HE h0 hs
    go_enter Try.func10, Try.ntmps10
    go_wp2
    refine wp_loop_rounds 1 ?_
    rw [rounds_succ]
    go_wp2_with (go_at_call 23; refine (blank_any _ _).mono ?_; rintro e w' ⟨rfl, rfl⟩)
    go_ret
    exact ⟨rfl, rfl⟩
  have h0' : 0 < s.size := by omega
  clear h0
  have h0 := h0'
  clear h0'
  have hemp := isEmpty_pos s h0
  clear HE
  go_enter Try.func10, Try.ntmps10
  go_wp2
  go_loop [6] (fun i => ∃ k : Nat, k ≤ s.size ∧ i = .int .i64 k ∧ upV s k) (fun i => s.size - (intOf i).toNat)
  case atStart => exact ⟨0, Nat.zero_le _, rfl, upV_zero s⟩
  case round =>
    obtain ⟨k, hk, rfl, hu⟩ := hrel
    have HU := Lib.hid hu
    clear hu
    by_cases hlt : k < s.size
    · obtain ⟨c, hc⟩ : ∃ c : Int, (s[k].toNat : Int) = c := ⟨_, rfl⟩
      cases hbad : badB c with
      | true =>
        have HR := Lib.hid (HN k hlt (by rw [hc]; exact hbad))
        have h3 : c = 0 ∨ c = 13 ∨ c = 10 := by simpa [badB, or_assoc] using hbad
        clear hbad
        rcases h3 with rfl | rfl | rfl
        all_goals
          go_wp2
          go_ret
          exact ⟨by rw [HR.out]; rfl, rfl⟩
      | false =>
        have HS2 := Lib.hid (upV_succ s k hlt HU.out (by rw [hc]; exact hbad))
        have h3 : ((c == 0) = false ∧ (c == 13) = false) ∧ (c == 10) = false := by simpa [badB, or_assoc] using hbad
        clear hbad
        obtain ⟨⟨h3, h4⟩, h5⟩ := h3
        go_wp2
        go_round
        case rel => exact ⟨k + 1, by omega, by go_num, HS2.out⟩
        case measure => simp [intOf]; omega
    · obtain rfl : s.size = k := by omega
      have HR := Lib.hid (HY h0 HU.out)
      cases hbl : blankB s[0].toNat with
      | true =>
        go_wp2_with (go_at_call 23; refine (blank_any _ _).mono ?_; rintro e w' ⟨rfl, rfl⟩)
        go_ret
        exact ⟨ret_b (by rw [HR.out, hbl]; rfl), rfl⟩
      | false =>
        go_wp2_with (go_at_call 23; refine (blank_any _ _).mono ?_; rintro e w' ⟨rfl, rfl⟩)
        go_ret
        exact ⟨ret_b (by rw [HR.out, hbl]; rfl), rfl⟩
theorem valueR_any (s : ByteArray) (w : World) (hs : s.size ≤ maxLen) : Calls Try.prog 11 #[.string s] w fun e w' => e = .returned (.bool (valueB s)) ∧ w = w' := by
  unfold maxLen at hs
  have HN := valueB_no s
  have HY := valueB_yes s
  have HE := valueB_nil s
  generalize valueB s = r at *
  by_cases h0 : s.size = 0
  · have hr := HE h0
    subst hr
    obtain rfl : s = ByteArray.empty := ByteArray.size_eq_zero_iff.1 h0
    clear HN HY HE h0 hs
    go_enter Try.func11, Try.ntmps11
    go_wp2
    refine wp_loop_rounds 1 ?_
    rw [rounds_succ]
    go_wp2_with (go_at_call 24; refine (blankR_any _ _).mono ?_; rintro e w' ⟨rfl, rfl⟩)
    go_ret
    exact ⟨rfl, rfl⟩
  have h0' : 0 < s.size := by omega
  clear h0
  have h0 := h0'
  clear h0'
  have hemp := isEmpty_pos s h0
  clear HE
  go_enter Try.func11, Try.ntmps11
  go_wp2
  go_loop [3] (fun i => ∃ k : Nat, k ≤ s.size ∧ i = .int .i64 k ∧ upV s k) (fun i => s.size - (intOf i).toNat)
  case atStart => exact ⟨0, Nat.zero_le _, rfl, upV_zero s⟩
  case round =>
    obtain ⟨k, hk, rfl, hu⟩ := hrel
    have HU := Lib.hid hu
    clear hu
    by_cases hlt : k < s.size
    · obtain ⟨c, hc⟩ : ∃ c : Int, (s[k].toNat : Int) = c := ⟨_, rfl⟩
      cases hbad : badB c with
      | true =>
        have HR := Lib.hid (HN k hlt (by rw [hc]; exact hbad))
        have h3 : c = 0 ∨ c = 13 ∨ c = 10 := by simpa [badB, or_assoc] using hbad
        clear hbad
        rcases h3 with rfl | rfl | rfl
        all_goals
          go_wp2
          go_ret
          exact ⟨by rw [HR.out]; rfl, rfl⟩
      | false =>
        have HS2 := Lib.hid (upV_succ s k hlt HU.out (by rw [hc]; exact hbad))
        have h3 : ((c == 0) = false ∧ (c == 13) = false) ∧ (c == 10) = false := by simpa [badB, or_assoc] using hbad
        clear hbad
        obtain ⟨⟨h3, h4⟩, h5⟩ := h3
        go_wp2
        go_round
        case rel => exact ⟨k + 1, by omega, by go_num, HS2.out⟩
        case measure => simp [intOf]; omega
    · obtain rfl : s.size = k := by omega
      have HR := Lib.hid (HY h0 HU.out)
      cases hbl : blankB s[0].toNat with
      | true =>
        go_wp2_with (go_at_call 24; refine (blankR_any _ _).mono ?_; rintro e w' ⟨rfl, rfl⟩)
        go_ret
        exact ⟨ret_b (by rw [HR.out, hbl]; rfl), rfl⟩
      | false =>
        go_wp2_with (go_at_call 24; refine (blankR_any _ _).mono ?_; rintro e w' ⟨rfl, rfl⟩)
        go_ret
        exact ⟨ret_b (by rw [HR.out, hbl]; rfl), rfl⟩

def pseudoB (s : ByteArray) : Bool := if h : 0 < s.size then ((s[0].toNat : Int) == 58) else false
theorem pseudo_any (s : ByteArray) (w : World) : Calls Try.prog 12 #[.string s] w fun e w' => e = .returned (.bool (pseudoB s)) ∧ w = w' := by
  by_cases h0 : s.size = 0
  · obtain rfl : s = ByteArray.empty := ByteArray.size_eq_zero_iff.1 h0
    clear h0
    go_enter Try.func12, Try.ntmps12
    go_wp2
    go_ret
    exact ⟨rfl, rfl⟩
  · have h1 : 0 < s.size := by omega
    have hemp := isEmpty_pos s h1
    have hp : pseudoB s = ((s[0].toNat : Int) == 58) := by unfold pseudoB; rw [dif_pos h1]
    rw [hp]
    clear hp h0
    go_enter Try.func12, Try.ntmps12
    go_wp2
    go_ret
    exact ⟨rfl, rfl⟩
theorem pseudoR_any (s : ByteArray) (w : World) : Calls Try.prog 13 #[.string s] w fun e w' => e = .returned (.bool (pseudoB s)) ∧ w = w' := by
  by_cases h0 : s.size = 0
  · obtain rfl : s = ByteArray.empty := ByteArray.size_eq_zero_iff.1 h0
    clear h0
    go_enter Try.func13, Try.ntmps13
    go_wp2
    go_ret
    exact ⟨rfl, rfl⟩
  · have h1 : 0 < s.size := by omega
    have hemp := isEmpty_pos s h1
    have hp : pseudoB s = ((s[0].toNat : Int) == 58) := by unfold pseudoB; rw [dif_pos h1]
    rw [hp]
    clear hp h0
    go_enter Try.func13, Try.ntmps13
    go_wp2
    go_ret
    exact ⟨rfl, rfl⟩
end Go.Proofs.Ytnakdlneennofaa
