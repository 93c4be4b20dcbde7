/- The walks of the statements on single texts. Conditions: the arguments fit their kinds. -/
import Derived.Test.YtnakdlneennofaaE
namespace Go.Proofs.Ytnakdlneennofaa
open Go.RowKit

theorem conv1_at (W : World) (B : Nat) (c : Int) (h : W.cell? ⟨B, 0, none⟩ = some (.int .u8 c)) (i : Nat) (hi : i < 1) : W.cell? ⟨B, 0 + i, none⟩ = some (.int .u8 ([c].getD i 0)) := by
  obtain rfl : i = 0 := by omega
  exact h
theorem conv1 (W : World) (B : Nat) (c : Int) (h : W.cell? ⟨B, 0, none⟩ = some (.int .u8 c)) : (convert 23 9 (.slice (some ⟨B, 0, none⟩) 1 1)).run Try.prog W = .ok (.string (strOfNums [c])) W :=
  run_convert_bytes_arg W 23 5 Try.underlying23 Try.underlying5 B 0 1 1 [c] rfl (fun i hi => conv1_at W B c h i hi) 9 Try.underlying9
theorem new1 (w : World) (o : Obj) (c : Int) : ((w.alloc o).alloc (.cells #[.int .u8 c] 5)).cell? ⟨w.heap.size + 1, 0, none⟩ = some (.int .u8 c) := by
  have h := World.cell?_alloc_new (w := w.alloc o) #[.int .u8 c] 5 0
  rw [World.size_alloc] at h
  rw [h]; rfl

theorem tells_walk (s : ByteArray) (c : Int) (w : World) (hs : s.size ≤ 300) :
    Calls Try.prog 3 #[.string s, .int .u8 c] w fun e w' => e = .returned (.bool true) ∧ Below w.heap.size w w' := by
  go_enter Try.func3, Try.ntmps3
  go_wp2_with fail
  refine (known_any _).mono ?_
  rintro e w1 ⟨rfl, hb⟩
  have k0 := conv1 (w1.alloc (.cells #[.int .u8 c] 5)) w1.heap.size c (by simp)
  have k1 := conv1 ((w1.alloc (.cells #[.int .u8 c] 5)).alloc (.cells #[.int .u8 c] 5)) (w1.heap.size + 1) c (new1 _ _ _)
  have k2 := conv1 (((w1.alloc (.cells #[.int .u8 c] 5)).alloc (.cells #[.int .u8 c] 5)).alloc (.cells #[.int .u8 c] 5)) (w1.heap.size + 2) c (by have := new1 (w1.alloc (.cells #[.int .u8 c] 5)) (.cells #[.int .u8 c] 5) c; rw [World.size_alloc] at this; exact this)
  obtain ⟨u, hu⟩ : ∃ u, strOfNums [c] = u := ⟨_, rfl⟩
  have hus : u.size = 1 := by rw [← hu, strOfNums_size]; rfl
  rw [hu] at k0 k1 k2
  clear hu
  have HU := Lib.hid hus
  have hus2 : u.size ≤ 1 := by omega
  clear hus
  go_wp2_with fail
  generalize hW : ((((w1.alloc (.cells #[.int .u8 c] 5)).alloc (.cells #[.int .u8 c] 5)).alloc (.cells #[.int .u8 c] 5)).alloc (.cells #[.string s, .string (s ++ u), .string (u ++ s), .string u] 9)) = wh
  have hcell : ∀ j, j < 4 → wh.cell? ⟨w1.heap.size + 1 + 1 + 1, j, none⟩ = some (.string ([s, s ++ u, u ++ s, u].getD j default)) := by
    intro j hj
    rw [← hW]
    have h := World.cell?_alloc_new (w := ((w1.alloc (.cells #[.int .u8 c] 5)).alloc (.cells #[.int .u8 c] 5)).alloc (.cells #[.int .u8 c] 5)) #[.string s, .string (s ++ u), .string (u ++ s), .string u] 9 j
    simp only [World.size_alloc] at h
    rw [h]
    match j, hj with
    | 0, _ => rfl
    | 1, _ => rfl
    | 2, _ => rfl
    | 3, _ => rfl
  have hbw : Below w.heap.size w wh := by
    rw [← hW]
    have := hb.size
    exact (((hb.alloc (by omega) _).alloc (by simp; omega) _).alloc (by simp; omega) _).alloc (by simp; omega) _
  have hsz : ∀ j, j < 4 → ([s, s ++ u, u ++ s, u].getD j default).size ≤ maxLen := by
    intro j hj
    unfold maxLen
    match j, hj with
    | 0, _ => show s.size ≤ _; omega
    | 1, _ => show (s ++ u).size ≤ _; rw [ByteArray.size_append]; omega
    | 2, _ => show (u ++ s).size ≤ _; rw [ByteArray.size_append]; omega
    | 3, _ => show u.size ≤ _; omega
  clear hW k0 k1 k2 HU
  generalize [s, s ++ u, u ++ s, u] = strs at hcell hsz
  have HB := Lib.hid hbw
  clear hbw hb
  go_loop [28] (fun i => ∃ k : Nat, k ≤ 4 ∧ i = .int .i64 k) (fun i => 4 - (intOf i).toNat)
  case atStart => exact ⟨0, Nat.zero_le _, rfl⟩
  case round =>
    obtain ⟨k, hk, rfl⟩ := hrel
    by_cases hlt : k < 4
    · have hc := hcell k hlt
      have hs2 := hsz k hlt
      generalize strs.getD k default = x at hc hs2
      clear hcell hsz
      go_wp2_with (first | (go_at_call 8; refine (name_any _ _ hs2).mono ?_; rintro e w' ⟨rfl, rfl⟩) | (go_at_call 9; refine (nameR_any _ _ hs2).mono ?_; rintro e w' ⟨rfl, rfl⟩) | (go_at_call 10; refine (value_any _ _ hs2).mono ?_; rintro e w' ⟨rfl, rfl⟩) | (go_at_call 11; refine (valueR_any _ _ hs2).mono ?_; rintro e w' ⟨rfl, rfl⟩) | (go_at_call 12; refine (pseudo_any _ _).mono ?_; rintro e w' ⟨rfl, rfl⟩) | (go_at_call 13; refine (pseudoR_any _ _).mono ?_; rintro e w' ⟨rfl, rfl⟩))
      go_round
      case rel => exact ⟨k + 1, by omega, by go_num⟩
      case measure => simp [intOf]; omega
    · obtain rfl : k = 4 := by omega
      clear hcell hsz
      go_wp2
      go_ret
      exact ⟨rfl, HB.out⟩

theorem tells_long (s : ByteArray) (c : Int) (w : World) (hs : 300 < s.size) :
    Calls Try.prog 3 #[.string s, .int .u8 c] w fun e w' => e = .returned (.bool true) ∧ Below w.heap.size w w' := by
  go_enter Try.func3, Try.ntmps3
  go_wp2_with fail
  refine (known_any _).mono ?_
  rintro e w1 ⟨rfl, hb⟩
  go_wp2_with fail
  go_ret
  exact ⟨rfl, hb⟩
end Go.Proofs.Ytnakdlneennofaa
