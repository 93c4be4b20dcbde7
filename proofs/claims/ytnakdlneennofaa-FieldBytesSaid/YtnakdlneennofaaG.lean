/- The walk of the statement on single bytes in a text: it returns true. Conditions: the bytes fit their kind. Printed by gen3b.py. -/
import Derived.Test.YtnakdlneennofaaF
import Derived.Lib.SlBytesConst
namespace Go.Proofs.Ytnakdlneennofaa
open Go.RowKit
set_option linter.unusedVariables false
set_option linter.unusedSimpArgs false

theorem set_mark (w : World) (C : Array Value) (t : TypeId) (fr : Nat × Nat) (i : Nat) (v : Value) :
    (w.alloc (.cells C t fr)).setCell ⟨w.heap.size, i, none⟩ v = w.alloc (.cells (C.setIfInBounds i v) t fr) := by
  have hm : ∀ (a : Array Obj) (x : Obj) (f : Obj → Obj), (a.push x).modify a.size f = a.push (f x) := by
    intro a x f
    apply Array.ext
    · simp
    · intro i h1 h2
      simp only [Array.getElem_modify, Array.getElem_push]
      by_cases h : a.size = i
      · subst h
        simp
      · have hi : i < a.size := by simp at h1; omega
        simp [h, hi]
  show ({ w.alloc (.cells C t fr) with heap := (w.heap.push (.cells C t fr)).modify w.heap.size _ } : World) = _
  rw [hm]
  rfl

theorem conv3 (W : World) (B : Nat) (x y z : Int) (h0 : W.cell? ⟨B, 0, none⟩ = some (.int .u8 x)) (h1 : W.cell? ⟨B, 1, none⟩ = some (.int .u8 y)) (h2 : W.cell? ⟨B, 2, none⟩ = some (.int .u8 z)) :
    (convert 23 9 (.slice (some ⟨B, 0, none⟩) 3 3)).run Try.prog W = .ok (.string (strOfNums [x, y, z])) W := by
  refine run_convert_bytes_arg W 23 5 Try.underlying23 Try.underlying5 B 0 3 3 [x, y, z] rfl (fun i hi => ?_) 9 Try.underlying9
  match i, hi with
  | 0, _ => exact h0
  | 1, _ => exact h1
  | 2, _ => exact h2

theorem fin_0 : ∀ n : Fin 256, nameB (strOfNums [((n : Nat) : Int), 98, 99]) = nameB (strOfNums [((n : Nat) : Int)]) ∧ valueB (strOfNums [((n : Nat) : Int), 98, 99]) = (!(((n : Nat) : Int) == 0) && !(((n : Nat) : Int) == 10) && !(((n : Nat) : Int) == 13) && !(((n : Nat) : Int) == 32 || ((n : Nat) : Int) == 9)) ∧ pseudoB (strOfNums [((n : Nat) : Int), 98, 99]) = (((n : Nat) : Int) == 58) := by decide +kernel
theorem all_0 (c : Int) (h0 : 0 ≤ c) (h1 : c ≤ 255) : nameB (strOfNums [c, 98, 99]) = nameB (strOfNums [c]) ∧ valueB (strOfNums [c, 98, 99]) = (!(c == 0) && !(c == 10) && !(c == 13) && !(c == 32 || c == 9)) ∧ pseudoB (strOfNums [c, 98, 99]) = (c == 58) := by
  obtain ⟨n, rfl⟩ := Int.eq_ofNat_of_zero_le h0
  exact fin_0 ⟨n, by omega⟩
theorem bytes_0 (c d : Int) (w : World) (h0 : 0 ≤ c) (h1 : c ≤ 255) (hd0 : 0 ≤ d) (hd : d % 3 = 0) :
    Calls Try.prog 4 #[.int .u8 c, .int .u8 d] w fun e w' => e = .returned (.bool true) ∧ Below w.heap.size w w' := by
  obtain ⟨q1, q2, q3⟩ := all_0 c h0 h1
  have zs : (strOfNums [c, 98, 99]).size = 3 := by rw [strOfNums_size]; rfl
  have zu : (strOfNums [c]).size = 1 := by rw [strOfNums_size]; rfl
  have kc := fun (w : World) (C : Array Value) (n c : Nat) => Lib.run_convert_bytes_const (P := Try.prog) w 23 5 C n c Try.underlying23 Try.underlying5
  have c1 := fun (w : World) => name_any (strOfNums [c, 98, 99]) w (by unfold maxLen; omega)
  have c2 := fun (w : World) => nameR_any (strOfNums [c]) w (by unfold maxLen; omega)
  have c3 := fun (w : World) => value_any (strOfNums [c, 98, 99]) w (by unfold maxLen; omega)
  have c4 := fun (w : World) => pseudo_any (strOfNums [c, 98, 99]) w
  rw [q1] at c1
  rw [q2] at c3
  rw [q3] at c4
  generalize nameB (strOfNums [c]) = rn at c1 c2
  clear q1 q2 q3 zs zu
  have K1 := fun (w : World) (x y z : Int) => conv3 (w.alloc (.cells #[.int .u8 x, .int .u8 y, .int .u8 z] 5 (3, 4))) w.heap.size x y z (World.cell?_alloc_mark _ _ _ _ _) (World.cell?_alloc_mark _ _ _ _ _) (World.cell?_alloc_mark _ _ _ _ _)
  have K2 := fun (w : World) (o : Obj) (c : Int) => conv1 ((w.alloc o).alloc (.cells #[.int .u8 c] 5)) (w.heap.size + 1) c (new1 _ _ _)
  rcases (show c = 0 ∨ c = 10 ∨ c = 13 ∨ c = 32 ∨ c = 9 ∨ c = 58 ∨ (c ≠ 0 ∧ c ≠ 10 ∧ c ≠ 13 ∧ c ≠ 32 ∧ c ≠ 9 ∧ c ≠ 58) from by omega) with rfl | rfl | rfl | rfl | rfl | rfl | ⟨n1, n2, n3, n4, n5, n6⟩
  case' inr.inr.inr.inr.inr.inr =>
    have e1 : (c == 0) = false := by simp [n1]
    have e2 : (c == 10) = false := by simp [n2]
    have e3 : (c == 13) = false := by simp [n3]
    have e4 : (c == 32) = false := by simp [n4]
    have e5 : (c == 9) = false := by simp [n5]
    have e6 : (c == 58) = false := by simp [n6]
    have e7 : (c != 0) = true := by simp [n1]
    have e8 : (c != 10) = true := by simp [n2]
    have e9 : (c != 13) = true := by simp [n3]
    simp only [e1, e2, e3, e4, e5, e6] at c3 c4
    clear n1 n2 n3 n4 n5 n6
  all_goals
    have C1 := Lib.hid c1
    have C2 := Lib.hid c2
    have C3 := Lib.hid c3
    have C4 := Lib.hid c4
    clear c1 c2 c3 c4
    go_enter Try.func4, Try.ntmps4
    go_wp2_with fail
    refine (known_any _).mono ?_
    rintro e w1 ⟨rfl, hb⟩
    have m1 : (w1.alloc (.cells #[.int .u8 97, .int .u8 98, .int .u8 99] 5 (3, 4))).cell? ⟨w1.heap.size, 0, none⟩ = some (.int .u8 97) := World.cell?_alloc_mark _ _ _ _ _
    have m2 : (w1.alloc (.cells #[.int .u8 97, .int .u8 98, .int .u8 99] 5 (3, 4))).frozen? ⟨w1.heap.size, 0, none⟩ = false := by rw [World.frozen?_alloc_mark]; rfl
    have m3 := fun v => set_mark w1 #[.int .u8 97, .int .u8 98, .int .u8 99] 5 (3, 4) 0 v
    have hbs := hb.size
    go_wp2_with fail
    refine (C2.out _).mono ?_
    rintro e w' ⟨rfl, rfl⟩
    go_wp2_with fail
    refine (C1.out _).mono ?_
    rintro e w' ⟨rfl, rfl⟩
    go_wp2_with fail
    refine (C3.out _).mono ?_
    rintro e w' ⟨rfl, rfl⟩
    go_wp2_with fail
    refine (C4.out _).mono ?_
    rintro e w' ⟨rfl, rfl⟩
    go_wp2_with fail
    go_ret
    exact ⟨rfl, (hb.alloc hbs _).alloc (by simp; omega) _⟩

theorem fin_1 : ∀ n : Fin 256, nameB (strOfNums [97, ((n : Nat) : Int), 99]) = nameB (strOfNums [((n : Nat) : Int)]) ∧ valueB (strOfNums [97, ((n : Nat) : Int), 99]) = (!(((n : Nat) : Int) == 0) && !(((n : Nat) : Int) == 10) && !(((n : Nat) : Int) == 13) && !false) ∧ pseudoB (strOfNums [97, ((n : Nat) : Int), 99]) = false := by decide +kernel
theorem all_1 (c : Int) (h0 : 0 ≤ c) (h1 : c ≤ 255) : nameB (strOfNums [97, c, 99]) = nameB (strOfNums [c]) ∧ valueB (strOfNums [97, c, 99]) = (!(c == 0) && !(c == 10) && !(c == 13) && !false) ∧ pseudoB (strOfNums [97, c, 99]) = false := by
  obtain ⟨n, rfl⟩ := Int.eq_ofNat_of_zero_le h0
  exact fin_1 ⟨n, by omega⟩
theorem bytes_1 (c d : Int) (w : World) (h0 : 0 ≤ c) (h1 : c ≤ 255) (hd0 : 0 ≤ d) (hd : d % 3 = 1) :
    Calls Try.prog 4 #[.int .u8 c, .int .u8 d] w fun e w' => e = .returned (.bool true) ∧ Below w.heap.size w w' := by
  obtain ⟨q1, q2, q3⟩ := all_1 c h0 h1
  have zs : (strOfNums [97, c, 99]).size = 3 := by rw [strOfNums_size]; rfl
  have zu : (strOfNums [c]).size = 1 := by rw [strOfNums_size]; rfl
  have kc := fun (w : World) (C : Array Value) (n c : Nat) => Lib.run_convert_bytes_const (P := Try.prog) w 23 5 C n c Try.underlying23 Try.underlying5
  have c1 := fun (w : World) => name_any (strOfNums [97, c, 99]) w (by unfold maxLen; omega)
  have c2 := fun (w : World) => nameR_any (strOfNums [c]) w (by unfold maxLen; omega)
  have c3 := fun (w : World) => value_any (strOfNums [97, c, 99]) w (by unfold maxLen; omega)
  have c4 := fun (w : World) => pseudo_any (strOfNums [97, c, 99]) w
  rw [q1] at c1
  rw [q2] at c3
  rw [q3] at c4
  generalize nameB (strOfNums [c]) = rn at c1 c2
  clear q1 q2 q3 zs zu
  have K1 := fun (w : World) (x y z : Int) => conv3 (w.alloc (.cells #[.int .u8 x, .int .u8 y, .int .u8 z] 5 (3, 4))) w.heap.size x y z (World.cell?_alloc_mark _ _ _ _ _) (World.cell?_alloc_mark _ _ _ _ _) (World.cell?_alloc_mark _ _ _ _ _)
  have K2 := fun (w : World) (o : Obj) (c : Int) => conv1 ((w.alloc o).alloc (.cells #[.int .u8 c] 5)) (w.heap.size + 1) c (new1 _ _ _)
  rcases (show c = 0 ∨ c = 10 ∨ c = 13 ∨ c = 32 ∨ c = 9 ∨ c = 58 ∨ (c ≠ 0 ∧ c ≠ 10 ∧ c ≠ 13 ∧ c ≠ 32 ∧ c ≠ 9 ∧ c ≠ 58) from by omega) with rfl | rfl | rfl | rfl | rfl | rfl | ⟨n1, n2, n3, n4, n5, n6⟩
  case' inr.inr.inr.inr.inr.inr =>
    have e1 : (c == 0) = false := by simp [n1]
    have e2 : (c == 10) = false := by simp [n2]
    have e3 : (c == 13) = false := by simp [n3]
    have e4 : (c == 32) = false := by simp [n4]
    have e5 : (c == 9) = false := by simp [n5]
    have e6 : (c == 58) = false := by simp [n6]
    have e7 : (c != 0) = true := by simp [n1]
    have e8 : (c != 10) = true := by simp [n2]
    have e9 : (c != 13) = true := by simp [n3]
    simp only [e1, e2, e3, e4, e5, e6] at c3 c4
    clear n1 n2 n3 n4 n5 n6
  all_goals
    have C1 := Lib.hid c1
    have C2 := Lib.hid c2
    have C3 := Lib.hid c3
    have C4 := Lib.hid c4
    clear c1 c2 c3 c4
    go_enter Try.func4, Try.ntmps4
    go_wp2_with fail
    refine (known_any _).mono ?_
    rintro e w1 ⟨rfl, hb⟩
    have m1 : (w1.alloc (.cells #[.int .u8 97, .int .u8 98, .int .u8 99] 5 (3, 4))).cell? ⟨w1.heap.size, 1, none⟩ = some (.int .u8 98) := World.cell?_alloc_mark _ _ _ _ _
    have m2 : (w1.alloc (.cells #[.int .u8 97, .int .u8 98, .int .u8 99] 5 (3, 4))).frozen? ⟨w1.heap.size, 1, none⟩ = false := by rw [World.frozen?_alloc_mark]; rfl
    have m3 := fun v => set_mark w1 #[.int .u8 97, .int .u8 98, .int .u8 99] 5 (3, 4) 1 v
    have hbs := hb.size
    go_wp2_with fail
    refine (C2.out _).mono ?_
    rintro e w' ⟨rfl, rfl⟩
    go_wp2_with fail
    refine (C1.out _).mono ?_
    rintro e w' ⟨rfl, rfl⟩
    go_wp2_with fail
    refine (C3.out _).mono ?_
    rintro e w' ⟨rfl, rfl⟩
    go_wp2_with fail
    refine (C4.out _).mono ?_
    rintro e w' ⟨rfl, rfl⟩
    go_wp2_with fail
    go_ret
    exact ⟨rfl, (hb.alloc hbs _).alloc (by simp; omega) _⟩

theorem fin_2 : ∀ n : Fin 256, nameB (strOfNums [97, 98, ((n : Nat) : Int)]) = nameB (strOfNums [((n : Nat) : Int)]) ∧ valueB (strOfNums [97, 98, ((n : Nat) : Int)]) = (!(((n : Nat) : Int) == 0) && !(((n : Nat) : Int) == 10) && !(((n : Nat) : Int) == 13) && !(((n : Nat) : Int) == 32 || ((n : Nat) : Int) == 9)) ∧ pseudoB (strOfNums [97, 98, ((n : Nat) : Int)]) = false := by decide +kernel
theorem all_2 (c : Int) (h0 : 0 ≤ c) (h1 : c ≤ 255) : nameB (strOfNums [97, 98, c]) = nameB (strOfNums [c]) ∧ valueB (strOfNums [97, 98, c]) = (!(c == 0) && !(c == 10) && !(c == 13) && !(c == 32 || c == 9)) ∧ pseudoB (strOfNums [97, 98, c]) = false := by
  obtain ⟨n, rfl⟩ := Int.eq_ofNat_of_zero_le h0
  exact fin_2 ⟨n, by omega⟩
theorem bytes_2 (c d : Int) (w : World) (h0 : 0 ≤ c) (h1 : c ≤ 255) (hd0 : 0 ≤ d) (hd : d % 3 = 2) :
    Calls Try.prog 4 #[.int .u8 c, .int .u8 d] w fun e w' => e = .returned (.bool true) ∧ Below w.heap.size w w' := by
  obtain ⟨q1, q2, q3⟩ := all_2 c h0 h1
  have zs : (strOfNums [97, 98, c]).size = 3 := by rw [strOfNums_size]; rfl
  have zu : (strOfNums [c]).size = 1 := by rw [strOfNums_size]; rfl
  have kc := fun (w : World) (C : Array Value) (n c : Nat) => Lib.run_convert_bytes_const (P := Try.prog) w 23 5 C n c Try.underlying23 Try.underlying5
  have c1 := fun (w : World) => name_any (strOfNums [97, 98, c]) w (by unfold maxLen; omega)
  have c2 := fun (w : World) => nameR_any (strOfNums [c]) w (by unfold maxLen; omega)
  have c3 := fun (w : World) => value_any (strOfNums [97, 98, c]) w (by unfold maxLen; omega)
  have c4 := fun (w : World) => pseudo_any (strOfNums [97, 98, c]) w
  rw [q1] at c1
  rw [q2] at c3
  rw [q3] at c4
  generalize nameB (strOfNums [c]) = rn at c1 c2
  clear q1 q2 q3 zs zu
  have K1 := fun (w : World) (x y z : Int) => conv3 (w.alloc (.cells #[.int .u8 x, .int .u8 y, .int .u8 z] 5 (3, 4))) w.heap.size x y z (World.cell?_alloc_mark _ _ _ _ _) (World.cell?_alloc_mark _ _ _ _ _) (World.cell?_alloc_mark _ _ _ _ _)
  have K2 := fun (w : World) (o : Obj) (c : Int) => conv1 ((w.alloc o).alloc (.cells #[.int .u8 c] 5)) (w.heap.size + 1) c (new1 _ _ _)
  rcases (show c = 0 ∨ c = 10 ∨ c = 13 ∨ c = 32 ∨ c = 9 ∨ c = 58 ∨ (c ≠ 0 ∧ c ≠ 10 ∧ c ≠ 13 ∧ c ≠ 32 ∧ c ≠ 9 ∧ c ≠ 58) from by omega) with rfl | rfl | rfl | rfl | rfl | rfl | ⟨n1, n2, n3, n4, n5, n6⟩
  case' inr.inr.inr.inr.inr.inr =>
    have e1 : (c == 0) = false := by simp [n1]
    have e2 : (c == 10) = false := by simp [n2]
    have e3 : (c == 13) = false := by simp [n3]
    have e4 : (c == 32) = false := by simp [n4]
    have e5 : (c == 9) = false := by simp [n5]
    have e6 : (c == 58) = false := by simp [n6]
    have e7 : (c != 0) = true := by simp [n1]
    have e8 : (c != 10) = true := by simp [n2]
    have e9 : (c != 13) = true := by simp [n3]
    simp only [e1, e2, e3, e4, e5, e6] at c3 c4
    clear n1 n2 n3 n4 n5 n6
  all_goals
    have C1 := Lib.hid c1
    have C2 := Lib.hid c2
    have C3 := Lib.hid c3
    have C4 := Lib.hid c4
    clear c1 c2 c3 c4
    go_enter Try.func4, Try.ntmps4
    go_wp2_with fail
    refine (known_any _).mono ?_
    rintro e w1 ⟨rfl, hb⟩
    have m1 : (w1.alloc (.cells #[.int .u8 97, .int .u8 98, .int .u8 99] 5 (3, 4))).cell? ⟨w1.heap.size, 2, none⟩ = some (.int .u8 99) := World.cell?_alloc_mark _ _ _ _ _
    have m2 : (w1.alloc (.cells #[.int .u8 97, .int .u8 98, .int .u8 99] 5 (3, 4))).frozen? ⟨w1.heap.size, 2, none⟩ = false := by rw [World.frozen?_alloc_mark]; rfl
    have m3 := fun v => set_mark w1 #[.int .u8 97, .int .u8 98, .int .u8 99] 5 (3, 4) 2 v
    have hbs := hb.size
    go_wp2_with fail
    refine (C2.out _).mono ?_
    rintro e w' ⟨rfl, rfl⟩
    go_wp2_with fail
    refine (C1.out _).mono ?_
    rintro e w' ⟨rfl, rfl⟩
    go_wp2_with fail
    refine (C3.out _).mono ?_
    rintro e w' ⟨rfl, rfl⟩
    go_wp2_with fail
    refine (C4.out _).mono ?_
    rintro e w' ⟨rfl, rfl⟩
    go_wp2_with fail
    go_ret
    exact ⟨rfl, (hb.alloc hbs _).alloc (by simp; omega) _⟩

theorem bytes_walk (c d : Int) (w : World) (h0 : 0 ≤ c) (h1 : c ≤ 255) (hd0 : 0 ≤ d) :
    Calls Try.prog 4 #[.int .u8 c, .int .u8 d] w fun e w' => e = .returned (.bool true) ∧ Below w.heap.size w w' := by
  rcases (show d % 3 = 0 ∨ d % 3 = 1 ∨ d % 3 = 2 from by omega) with h | h | h
  · exact bytes_0 c d w h0 h1 hd0 h
  · exact bytes_1 c d w h0 h1 hd0 h
  · exact bytes_2 c d w h0 h1 hd0 h
end Go.Proofs.Ytnakdlneennofaa
