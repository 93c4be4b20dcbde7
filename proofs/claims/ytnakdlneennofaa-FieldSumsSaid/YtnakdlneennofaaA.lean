/- The walks of the functions that look at one byte, and of the search in a fixed text. Conditions: the byte fits its kind. -/
import Derived.Test.YtnakdlneennofaaRows
import Derived.WalkKit
import Derived.WalkLawsBesides
import Derived.WalkSpells
import Derived.BigQuiet
import Derived.Deep.QuietTactic
import Derived.Lib.Hide
import Derived.RowKit3
namespace Go.Proofs.Ytnakdlneennofaa
open Go.RowKit

theorem ibs_any (s : ByteArray) (c : Int) (w : World) : Calls Try.prog 26 #[.string s, .int .u8 c] w fun e w' => e = .returned (.int .i64 (firstIdx s c.toNat.toUInt8)) ∧ w = w' := by
  have hx := fun (w : World) => (run_callFunc_extern (P := Try.prog) (f := 28) Try.func28 (by kernel_rfl) (by kernel_rfl) (by kernel_rfl) (e := Extern.BytealgIndexByte.indexByte) (by kernel_rfl) #[.string s, .int .u8 c] w).trans (by rw [run_indexByte_string])
  go_enter Try.func26, Try.ntmps26
  go_wp2
  go_ret
  exact ⟨rfl, rfl⟩

def signs : List Int := [33, 35, 36, 37, 38, 39, 42, 43, 45, 46, 94, 95, 96, 124, 126]
def signB (c : Int) : Bool := decide (97 ≤ c ∧ c ≤ 122) || decide (48 ≤ c ∧ c ≤ 57) || signs.contains c
def okAt (c : Int) (n : Nat) : Bool := decide (97 ≤ c ∧ c ≤ 122) || decide (48 ≤ c ∧ c ≤ 57) || (signs.take n).contains c

theorem sign_idx (c : Int) (h0 : 0 ≤ c) (h1 : c ≤ 255) : decide (0 ≤ firstIdx { data := #[33, 35, 36, 37, 38, 39, 42, 43, 45, 46, 94, 95, 96, 124, 126] } c.toNat.toUInt8) = signs.contains c := by
  obtain ⟨n, rfl⟩ := Int.eq_ofNat_of_zero_le h0
  have h : ∀ n : Fin 256, decide (0 ≤ firstIdx { data := #[33, 35, 36, 37, 38, 39, 42, 43, 45, 46, 94, 95, 96, 124, 126] } ((n : Nat) : Int).toNat.toUInt8) = signs.contains ((n : Nat) : Int) := by decide +kernel
  exact h ⟨n, by omega⟩

theorem sign_any (c : Int) (w : World) (h0 : 0 ≤ c) (h1 : c ≤ 255) : Calls Try.prog 22 #[.int .u8 c] w fun e w' => e = .returned (.bool (signB c)) ∧ w = w' := by
  have hs := sign_idx c h0 h1
  by_cases ha : 97 ≤ c ∧ c ≤ 122
  · obtain ⟨h2, h3⟩ := ha
    have hb : signB c = true := by simp [signB, h2, h3]
    rw [hb]
    go_enter Try.func22, Try.ntmps22
    go_wp2_with (go_at_call 26; refine (ibs_any _ _ _).mono ?_; rintro e w' ⟨rfl, rfl⟩)
    go_ret
    exact ⟨rfl, rfl⟩
  · by_cases hb : 48 ≤ c ∧ c ≤ 57
    · obtain ⟨h2, h3⟩ := hb
      have hb : signB c = true := by simp [signB, h2, h3]
      rw [hb]
      go_enter Try.func22, Try.ntmps22
      go_wp2_with (go_at_call 26; refine (ibs_any _ _ _).mono ?_; rintro e w' ⟨rfl, rfl⟩)
      go_ret
      exact ⟨rfl, rfl⟩
    · have hc : signB c = signs.contains c := by simp [signB, ha, hb]
      rw [hc]
      generalize signs.contains c = r at hs
      clear hc
      rcases (show c < 48 ∨ (57 < c ∧ c < 97) ∨ (57 < c ∧ 122 < c) from by omega) with h | ⟨h, h'⟩ | ⟨h, h'⟩
      case' inr.inl => have d1 : decide (c ≤ 57) = false := by simp; omega
      case' inr.inr => have d1 : decide (c ≤ 57) = false := by simp; omega
      case' inr.inr => have d2 : decide (c ≤ 122) = false := by simp; omega
      all_goals
        go_enter Try.func22, Try.ntmps22
        go_wp2_with (go_at_call 26; refine (ibs_any _ _ _).mono ?_; rintro e w' ⟨rfl, rfl⟩)
        go_ret
        exact ⟨rfl, rfl⟩

def blankB (c : Int) : Bool := c == 32 || c == 9
theorem blank_any (c : Int) (w : World) : Calls Try.prog 23 #[.int .u8 c] w fun e w' => e = .returned (.bool (blankB c)) ∧ w = w' := by
  unfold blankB
  by_cases h : c = 32
  · subst h
    go_enter Try.func23, Try.ntmps23
    go_wp2
    go_ret
    exact ⟨rfl, rfl⟩
  · have h2 : (c == 32) = false := by simp [h]
    rw [h2, Bool.false_or]
    go_enter Try.func23, Try.ntmps23
    go_wp2
    go_ret
    exact ⟨rfl, rfl⟩
theorem blankR_any (c : Int) (w : World) : Calls Try.prog 24 #[.int .u8 c] w fun e w' => e = .returned (.bool (blankB c)) ∧ w = w' := by
  unfold blankB
  by_cases h : c = 32
  · subst h
    go_enter Try.func24, Try.ntmps24
    go_wp2
    go_ret
    exact ⟨rfl, rfl⟩
  · have h2 : (c == 32) = false := by simp [h]
    rw [h2, Bool.false_or]
    go_enter Try.func24, Try.ntmps24
    go_wp2
    go_ret
    exact ⟨rfl, rfl⟩

def nameB (s : ByteArray) : Bool := !s.toList.isEmpty && s.data.toList.all fun c => signB c.toNat
def upTo (s : ByteArray) (k : Nat) : Prop := ∀ j (h : j < s.size), j < k → signB s[j].toNat = true
theorem nameB_no (s : ByteArray) (k : Nat) (hk : k < s.size) (h : signB s[k].toNat = false) : nameB s = false := by
  unfold nameB
  rw [Bool.and_eq_false_iff]
  right
  rw [List.all_eq_false]
  refine ⟨s[k], ?_, by rw [h]; simp⟩
  have : s[k] = s.data.toList[k]'(by simpa using hk) := rfl
  rw [this]; exact List.getElem_mem _
theorem nameB_yes (s : ByteArray) (h : upTo s s.size) : nameB s = !s.toList.isEmpty := by
  unfold nameB
  have : (s.data.toList.all fun c => signB c.toNat) = true := by
    rw [List.all_eq_true]
    intro x hx
    obtain ⟨j, hj, rfl⟩ := List.getElem_of_mem hx
    exact h j (by simpa using hj) (by simpa using hj)
  rw [this, Bool.and_true]
theorem upTo_zero (s : ByteArray) : upTo s 0 := fun _ _ h => absurd h (by omega)
theorem upTo_succ (s : ByteArray) (k : Nat) (hk : k < s.size) (h : upTo s k) (hs : signB s[k].toNat = true) : upTo s (k + 1) := by
  intro j hj hjk
  by_cases e : j = k
  · subst e; exact hs
  · exact h j hj (by omega)

theorem byte_bd (x : UInt8) : (0 : Int) ≤ (x.toNat : Int) ∧ (x.toNat : Int) ≤ 255 := by have := x.toNat_lt; omega

theorem name_any (s : ByteArray) (w : World) (hs : s.size ≤ maxLen) : Calls Try.prog 8 #[.string s] w fun e w' => e = .returned (.bool (nameB s)) ∧ w = w' := by
  unfold maxLen at hs
  have HN := nameB_no s
  have HY := nameB_yes s
  generalize nameB s = r at *
  go_enter Try.func8, Try.ntmps8
  go_wp2
  go_loop [6] (fun i => ∃ k : Nat, k ≤ s.size ∧ i = .int .i64 k ∧ upTo s k) (fun i => s.size - (intOf i).toNat)
  case atStart => exact ⟨0, Nat.zero_le _, rfl, upTo_zero s⟩
  case round =>
    obtain ⟨k, hk, rfl, hu⟩ := hrel
    have HU := Lib.hid hu
    clear hu
    by_cases hlt : k < s.size
    · have hb := byte_bd s[k]
      cases hsg : signB s[k].toNat with
      | true =>
        have HS := upTo_succ s k hlt HU.out hsg
        have HS2 := Lib.hid HS
        clear HS
        go_wp2_with (go_at_call 22; refine (sign_any _ _ hb.1 hb.2).mono ?_; rintro e w' ⟨rfl, rfl⟩)
        go_round
        case rel => exact ⟨k + 1, by omega, by go_num, HS2.out⟩
        case measure => simp [intOf]; omega
      | false =>
        have hr := HN k hlt hsg
        have HR := Lib.hid hr
        clear hr
        go_wp2_with (go_at_call 22; refine (sign_any _ _ hb.1 hb.2).mono ?_; rintro e w' ⟨rfl, rfl⟩)
        go_ret
        exact ⟨by rw [HR.out]; rfl, rfl⟩
    · obtain rfl : s.size = k := by omega
      have hr := HY HU.out
      have HR := Lib.hid hr
      clear hr
      go_wp2
      go_ret
      exact ⟨by rw [HR.out]; rfl, rfl⟩
end Go.Proofs.Ytnakdlneennofaa
