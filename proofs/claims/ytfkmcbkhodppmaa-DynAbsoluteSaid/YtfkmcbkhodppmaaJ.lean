/- The contracts of New, NewTable and Resize. Conditions: the sizes are no more than 2^40. -/
import Derived.Test.YtfkmcbkhodppmaaG
namespace Go.Proofs.Ytfkmcbkhodppmaa
open Go.RowKit Go.Maps
set_option linter.unusedVariables false

/-- The greater of a number and 0. -/
def up (n : Int) : Nat := n.toNat
theorem up_if (n : Int) : (if n < 0 then (0 : Int) else n) = (up n : Int) := by unfold up; split <;> omega
theorem up_le (n : Int) (m : Nat) (h : n ≤ m) : up n ≤ m := by unfold up; omega

theorem new_any (n : Int) (w : World) : Calls Try.prog 9 #[.int .i64 n] w fun e w' => ∃ t F, e = .returned (.pointer (some ⟨t, 0, none⟩)) ∧ IsTab w' t F ⟨[], 0⟩ (up n) ∧ (∀ g ∈ F, w.heap.size ≤ g) ∧ Touch [] w w' := by
  have hmm := @run_makeMap Try.prog
  have hu := up_if n
  go_enter Try.func9, Try.ntmps9
  go_wp2_with fail
  go_ret
  refine ⟨w.heap.size + 2, [w.heap.size + 2, w.heap.size, w.heap.size + 1], rfl, ?_, by simp, (((Touch.refl [] w).alloc _).alloc _).alloc _⟩
  have h0 := IsW.made w
  have h1 := (h0.alloc (.map #[] 0)).alloc (.cells #[.slice none 0 0, .int .u64 0, .int .i64 (up n), .int .i64 0, .map (some w.heap.size), .map (some (w.heap.size + 1))] 56)
  have h2 := (IsN.made (w.alloc (.map #[] 0))).alloc (.cells #[.slice none 0 0, .int .u64 0, .int .i64 (up n), .int .i64 0, .map (some w.heap.size), .map (some (w.heap.size + 1))] 56)
  have h3 := IsBlk.new ((w.alloc (.map #[] 0)).alloc (.map #[] 0)) [.slice none 0 0, .int .u64 0, .int .i64 (up n), .int .i64 0, .map (some w.heap.size), .map (some (w.heap.size + 1))] 56
  simp only [World.size_alloc] at h2 h3
  exact ⟨none, 0, w.heap.size, w.heap.size + 1, h3, Sl.nil _ _ _, h1, h2, rfl, by simp, Nat.zero_le _⟩
theorem newTable_any (n : Int) (w : World) : Calls Try.prog 10 #[.int .i64 n] w fun e w' => ∃ t F, e = .returned (.pointer (some ⟨t, 0, none⟩)) ∧ IsRef w' t F ⟨[], 0⟩ (up n) ∧ (∀ g ∈ F, w.heap.size ≤ g) ∧ Touch [] w w' := by
  have hu := up_if n
  go_enter Try.func10, Try.ntmps10
  go_wp2_with fail
  go_ret
  exact ⟨w.heap.size, [w.heap.size], rfl, ⟨none, 0, IsBlk.new w [.slice none 0 0, .int .i64 (up n), .int .u64 0] 58, Sl.nil _ _ _, rfl, by simp, Nat.zero_le _⟩, by simp, (Touch.refl [] w).alloc _⟩
theorem resize_any {w : World} {t cap : Nat} {F : List Nat} {s : TS} (h : IsTab w t F s cap) (n : Int) (hn : n ≤ 1099511627776) (hcn : s.cnt ≤ 1099511627776) (hz : szL s.L ≤ 1099511627776) :
    Calls Try.prog 20 #[.pointer (some ⟨t, 0, none⟩), .int .i64 n] w fun e w' => e = .returned (.int .i64 (fitN s.L (up n))) ∧ ∃ F', IsTab w' t F' (setC s (up n)) (up n) ∧ Touch F w w' ∧ ∀ g ∈ F', g ∈ F := by
  have hu := up_if n
  have hl := up_le n _ hn
  obtain ⟨m, hm⟩ : ∃ m, up n = m := ⟨_, rfl⟩
  rw [hm] at hu hl ⊢
  obtain ⟨a, c, bw, bn, hP, hF, hA, h6⟩ := h.parts
  have hlt := hP.1.lt
  have c2 := hP.1.cell 2
  have f2 := hP.1.frozen 2
  simp only [List.getElem?_cons_zero, List.getElem?_cons_succ] at c2
  have hT : Touch [t] w (w.setCell ⟨t, 2, none⟩ (.int .i64 m)) := (Touch.refl [t] _).set (p := ⟨t, 2, none⟩) (.inl (by simp)) _
  obtain ⟨a1, a2, a3, a4, a5, a6⟩ := hA
  have H2 : Hid (IsTab (w.setCell ⟨t, 2, none⟩ (.int .i64 m)) t F s m) :=
    Lib.hid ⟨a, c, bw, bn, hP.1.set 2 _, hP.2.1.touch hT (fun g hg hm => by simp at hm; exact a4 (hm ▸ hg)), hP.2.2.1.touch hT (by simpa using Ne.symm a1), hP.2.2.2.touch hT (by simpa using Ne.symm a2), hF, ⟨a1, a2, a3, a4, a5, a6⟩, h6⟩
  have HTF := Lib.hid (show Touch F w (w.setCell ⟨t, 2, none⟩ (.int .i64 m)) from hT.mono (by simp [hF]))
  have HM := Lib.hid hm
  clear h hP hF h6 hT hm a1 a2 a3 a4 a5 a6
  go_enter Try.func20, Try.ntmps20
  go_wp2_with fail
  refine (fit_any H2.out 0 (by omega) hl hcn hz).mono ?_
  rintro e w' ⟨rfl, F', h1, h2, h3⟩
  go_wp2_with fail
  go_ret
  simp only [Int.sub_zero] at h1 ⊢
  exact ⟨rfl, F', h1, HTF.out.trans h2 (fun g hg => .inl hg), h3⟩
theorem refResize_any {w : World} {t cap : Nat} {F : List Nat} {s : TS} (h : IsRef w t F s cap) (n : Int) (hn : n ≤ 1099511627776) (hcn : s.cnt ≤ 1099511627776) (hz : szL s.L ≤ 1099511627776) :
    Calls Try.prog 21 #[.pointer (some ⟨t, 0, none⟩), .int .i64 n] w fun e w' => e = .returned (.int .i64 (fitN s.L (up n))) ∧ ∃ F', IsRef w' t F' (setC s (up n)) (up n) ∧ Touch F w w' ∧ ∀ g ∈ F', g ∈ F := by
  have hu := up_if n
  have hl := up_le n _ hn
  obtain ⟨m, hm⟩ : ∃ m, up n = m := ⟨_, rfl⟩
  rw [hm] at hu hl ⊢
  obtain ⟨a, c, h1, h2, hF, h5, h6⟩ := h
  have hlt := h1.lt
  have c1 := h1.cell 1
  have f1 := h1.frozen 1
  simp only [List.getElem?_cons_zero, List.getElem?_cons_succ] at c1
  have hT : Touch [t] w (w.setCell ⟨t, 1, none⟩ (.int .i64 m)) := (Touch.refl [t] _).set (p := ⟨t, 1, none⟩) (.inl (by simp)) _
  have H2 : Hid (IsRef (w.setCell ⟨t, 1, none⟩ (.int .i64 m)) t F s m) := Lib.hid ⟨a, c, h1.set 1 _, h2.touch hT (fun g hg hm => by simp at hm; exact h5 (hm ▸ hg)), hF, h5, h6⟩
  have HTF := Lib.hid (show Touch F w (w.setCell ⟨t, 1, none⟩ (.int .i64 m)) from hT.mono (by simp [hF]))
  have HM := Lib.hid hm
  clear h1 h2 hF h5 h6 hT hm
  go_enter Try.func21, Try.ntmps21
  go_wp2_with fail
  refine (refFit_any H2.out m (by omega) hz).mono ?_
  rintro e w' ⟨rfl, F', h1, h2, h3⟩
  go_wp2_with fail
  go_ret
  exact ⟨rfl, F', h1, HTF.out.trans h2 (fun g hg => .inl hg), h3⟩
end Go.Proofs.Ytfkmcbkhodppmaa
