/- The contracts of the functions that tell one entry. Conditions: the sizes are no more than 2^40. -/
import Derived.Test.YtfkmcbkhodppmaaC
namespace Go.Proofs.Ytfkmcbkhodppmaa
open Go.RowKit Go.Maps
set_option linter.unusedVariables false

theorem Sl.two {w : World} {a : Option Addr} {n c : Nat} {l : List Fld} (h : Sl w 26 2 (.slice a n c) n (cf l)) (hn : l.length = n) (i : Nat) (x : Fld) (hx : l[i]? = some x) :
    ∃ g o, a = some ⟨g, o, none⟩ ∧ w.cell? ⟨g, o + i * 2, none⟩ = some (.string x.1) ∧ w.cell? ⟨g, o + i * 2 + 1, none⟩ = some (.string x.2) ∧ g < w.heap.size := by
  have hi : i < l.length := (List.getElem?_eq_some_iff.1 hx).1
  obtain ⟨g, o, rfl⟩ := h.rd.some (by omega)
  exact ⟨g, o, rfl, h.rd.two hn i x hx⟩

section
variable {w : World} {t cap : Nat} {F : List Nat} {s : TS}
theorem at_no (h : IsTab w t F s cap) (hc : s.cnt ≤ 1099511627776) (a : Int) (ha : 0 ≤ a) (hno : a < s.first ∨ (s.cnt : Int) ≤ a) :
    Calls Try.prog 19 #[.pointer (some ⟨t, 0, none⟩), .int .u64 a] w fun e w' => e = .returned (fopt none) ∧ Touch [] w w' := by
  have H := Lib.hid h
  obtain ⟨a0, c, bw, bn, h1, h2, h3, h4, rfl, h5, h6⟩ := h
  have c1 := h1.cell 1
  have hl := h1.lt
  simp only [List.getElem?_cons_zero, List.getElem?_cons_succ] at c1
  clear h1 h2 h3 h4 h5
  by_cases hlt : a < (s.first : Int)
  · have hlb : decide (a < (s.first : Int)) = true := by simpa using hlt
    go_enter Try.func19, Try.ntmps19
    go_wp2_with fail
    refine (first_any (H.out.keep ((Touch.refl [] _).alloc _)) hc).mono ?_
    rintro e w' ⟨rfl, n, rfl⟩
    go_wp2_with fail
    refine bodyPost_ret (v := fopt none) (by simp [results, Try.results19, go_sem, fopt, keyW]; try rfl) rfl ⟨rfl, ?_⟩
    (repeat (first | exact Touch.refl _ _ | refine Touch.drewN ?_ _ | refine Touch.drew ?_ | refine Touch.set ?_ (.inr (by simp)) _ | refine Touch.alloc ?_ _))
  · have hlb : decide (a < (s.first : Int)) = false := by simpa using hlt
    have hge : (s.cnt : Int) ≤ a := by omega
    clear hno
    go_enter Try.func19, Try.ntmps19
    go_wp2_with fail
    refine (first_any (H.out.keep ((Touch.refl [] _).alloc _)) hc).mono ?_
    rintro e w' ⟨rfl, n, rfl⟩
    go_wp2_with fail
    refine bodyPost_ret (v := fopt none) (by simp [results, Try.results19, go_sem, fopt, keyW]; try rfl) rfl ⟨rfl, ?_⟩
    (repeat (first | exact Touch.refl _ _ | refine Touch.drewN ?_ _ | refine Touch.drew ?_ | refine Touch.set ?_ (.inr (by simp)) _ | refine Touch.alloc ?_ _))
theorem at_yes (h : IsTab w t F s cap) (hc : s.cnt ≤ 1099511627776) (a : Int) (ha : (s.first : Int) ≤ a ∧ a < s.cnt) (x : Fld) (hx : s.L[(a - s.first).toNat]? = some x) :
    Calls Try.prog 19 #[.pointer (some ⟨t, 0, none⟩), .int .u64 a] w fun e w' => e = .returned (fopt (some x)) ∧ Touch [] w w' := by
  have H := Lib.hid h
  obtain ⟨a0, c, bw, bn, h1, h2, h3, h4, rfl, h5, h6⟩ := h
  have c0 := h1.cell 0
  have c1 := h1.cell 1
  have hl := h1.lt
  simp only [List.getElem?_cons_zero, List.getElem?_cons_succ] at c0 c1
  obtain ⟨g, o, rfl, d0, d1, hg⟩ := h2.two rfl _ x hx
  have hk : (a - s.first).toNat < s.L.length := (List.getElem?_eq_some_iff.1 hx).1
  obtain ⟨k, hk0⟩ : ∃ k, (a - s.first).toNat = k := ⟨_, rfl⟩
  rw [hk0] at d0 d1 hk
  obtain ⟨x1, x2⟩ := x
  simp only at d0 d1
  have hlb : decide (a < (s.first : Int)) = false := by simp; omega
  have hgb : decide ((s.cnt : Int) ≤ a) = false := by simp; omega
  have e1 : IntKind.u64.wrap (a - (s.first : Int)) = (k : Int) := by rw [IntWalk.u64_in _ (by omega)]; omega
  have hkk : (k : Int) < (s.L.length : Int) := by omega
  have hk1 : (0 : Int) ≤ (k : Int) := by omega
  have n0 := World.new_ne w _ c0
  have n1 := World.new_ne w _ d0
  have n2 := World.new_ne w _ d1
  clear h1 h2 h3 h4 h5 hx hk0
  go_enter Try.func19, Try.ntmps19
  go_wp2_with fail
  refine (first_any (H.out.keep ((Touch.refl [] _).alloc _)) hc).mono ?_
  rintro e w' ⟨rfl, n, rfl⟩
  go_wp2_with fail
  go_region_held3 (fun w' => w'.cell? ⟨t, 0, none⟩ = some (.slice (some ⟨g, o, none⟩) s.L.length c) ∧ w'.cell? ⟨g, o + k * 2, none⟩ = some (.string x1) ∧ w'.cell? ⟨g, o + k * 2 + 1, none⟩ = some (.string x2)) (go_keep) (first | (go_at_call 32; refine (first_any (H.out.keep ?_) hc).mono ?_; (exact ((Touch.refl [] w).alloc _).drewN _); rintro e w' ⟨rfl, n, rfl⟩))
  all_goals
    go_wp2_with fail
    refine bodyPost_ret (v := fopt (some (x1, x2))) (by simp [results, Try.results19, go_sem, fopt, keyW]; try rfl) rfl ⟨rfl, ?_⟩
    (repeat (first | exact Touch.refl _ _ | refine Touch.drewN ?_ _ | refine Touch.drew ?_ | refine Touch.set ?_ (.inr (by simp)) _ | refine Touch.alloc ?_ _))
theorem abs_no (h : IsRef w t F s cap) (hc : s.cnt ≤ 1099511627776) (a : Int) (ha : 0 ≤ a) (hno : a < s.first ∨ (s.cnt : Int) ≤ a) :
    Calls Try.prog 30 #[.pointer (some ⟨t, 0, none⟩), .int .u64 a] w fun e w' => e = .returned (fopt none) ∧ Touch [] w w' := by
  have H := Lib.hid h
  obtain ⟨a0, c, h1, h2, rfl, h5, h6⟩ := h
  have c1 := h1.cell 2
  have hl := h1.lt
  simp only [List.getElem?_cons_zero, List.getElem?_cons_succ] at c1
  clear h1 h2 h5
  by_cases hge : (s.cnt : Int) ≤ a
  · have hlb : decide ((s.cnt : Int) ≤ a) = true := by simpa using hge
    go_enter Try.func30, Try.ntmps30
    go_wp2_with fail
    refine bodyPost_ret (v := fopt none) (by simp [results, Try.results30, go_sem, fopt, keyW]; try rfl) rfl ⟨rfl, ?_⟩
    (repeat (first | exact Touch.refl _ _ | refine Touch.drewN ?_ _ | refine Touch.drew ?_ | refine Touch.set ?_ (.inr (by simp)) _ | refine Touch.alloc ?_ _))
  · have hlb : decide ((s.cnt : Int) ≤ a) = false := by simpa using hge
    have hlt : a < (s.first : Int) := by omega
    have hlb2 : decide (a < (s.first : Int)) = true := by simpa using hlt
    clear hno
    go_enter Try.func30, Try.ntmps30
    go_wp2_with fail
    refine (refFirst_any (H.out.keep ((Touch.refl [] _).alloc _)) hc).mono ?_
    rintro e w' ⟨rfl, n, rfl⟩
    go_wp2_with fail
    refine bodyPost_ret (v := fopt none) (by simp [results, Try.results30, go_sem, fopt, keyW]; try rfl) rfl ⟨rfl, ?_⟩
    (repeat (first | exact Touch.refl _ _ | refine Touch.drewN ?_ _ | refine Touch.drew ?_ | refine Touch.set ?_ (.inr (by simp)) _ | refine Touch.alloc ?_ _))
theorem abs_yes (h : IsRef w t F s cap) (hc : s.cnt ≤ 1099511627776) (a : Int) (ha : (s.first : Int) ≤ a ∧ a < s.cnt) (x : Fld) (hx : s.L[(a - s.first).toNat]? = some x) :
    Calls Try.prog 30 #[.pointer (some ⟨t, 0, none⟩), .int .u64 a] w fun e w' => e = .returned (fopt (some x)) ∧ Touch [] w w' := by
  have H := Lib.hid h
  obtain ⟨a0, c, h1, h2, rfl, h5, h6⟩ := h
  have c0 := h1.cell 0
  have c1 := h1.cell 2
  have hl := h1.lt
  simp only [List.getElem?_cons_zero, List.getElem?_cons_succ] at c0 c1
  obtain ⟨g, o, rfl, d0, d1, hg⟩ := h2.two rfl _ x hx
  have hk : (a - s.first).toNat < s.L.length := (List.getElem?_eq_some_iff.1 hx).1
  obtain ⟨k, hk0⟩ : ∃ k, (a - s.first).toNat = k := ⟨_, rfl⟩
  rw [hk0] at d0 d1 hk
  obtain ⟨x1, x2⟩ := x
  simp only at d0 d1
  have hlb : decide (a < (s.first : Int)) = false := by simp; omega
  have hgb : decide ((s.cnt : Int) ≤ a) = false := by simp; omega
  have e1 : IntKind.u64.wrap (a - (s.first : Int)) = (k : Int) := by rw [IntWalk.u64_in _ (by omega)]; omega
  have hkk : (k : Int) < (s.L.length : Int) := by omega
  have hk1 : (0 : Int) ≤ (k : Int) := by omega
  have n0 := World.new_ne w _ c0
  have n1 := World.new_ne w _ d0
  have n2 := World.new_ne w _ d1
  clear h1 h2 h5 hx hk0
  go_enter Try.func30, Try.ntmps30
  go_wp2_with fail
  refine (refFirst_any (H.out.keep ((Touch.refl [] _).alloc _)) hc).mono ?_
  rintro e w' ⟨rfl, n, rfl⟩
  go_wp2_with fail
  go_region_held3 (fun w' => w'.cell? ⟨t, 0, none⟩ = some (.slice (some ⟨g, o, none⟩) s.L.length c) ∧ w'.cell? ⟨g, o + k * 2, none⟩ = some (.string x1) ∧ w'.cell? ⟨g, o + k * 2 + 1, none⟩ = some (.string x2)) (go_keep) (first | (go_at_call 29; refine (refFirst_any (H.out.keep ?_) hc).mono ?_; (exact ((Touch.refl [] w).alloc _).drewN _); rintro e w' ⟨rfl, n, rfl⟩))
  all_goals
    go_wp2_with fail
    refine bodyPost_ret (v := fopt (some (x1, x2))) (by simp [results, Try.results30, go_sem, fopt, keyW]; try rfl) rfl ⟨rfl, ?_⟩
    (repeat (first | exact Touch.refl _ _ | refine Touch.drewN ?_ _ | refine Touch.drew ?_ | refine Touch.set ?_ (.inr (by simp)) _ | refine Touch.alloc ?_ _))
theorem newest_no (h : IsTab w t F s cap) (hc : s.cnt ≤ 1099511627776) (i : Int) (hi : (s.L.length : Int) ≤ i) :
    Calls Try.prog 22 #[.pointer (some ⟨t, 0, none⟩), .int .u64 i] w fun e w' => e = .returned (fopt none) ∧ Touch [] w w' := by
  obtain ⟨a0, c, bw, bn, h1, h2, h3, h4, rfl, h5, h6⟩ := h
  have c0 := h1.cell 0
  have hl := h1.lt
  simp only [List.getElem?_cons_zero] at c0
  have hlb : decide ((s.L.length : Int) ≤ i) = true := by simpa using hi
  have hb1 : (s.L.length : Int) ≤ 1099511627776 := by omega
  clear h1 h2 h3 h4 h5
  go_enter Try.func22, Try.ntmps22
  go_wp2_with fail
  refine bodyPost_ret (v := fopt none) (by simp [results, Try.results22, go_sem, fopt, keyW]; try rfl) rfl ⟨rfl, ?_⟩
  (repeat (first | exact Touch.refl _ _ | refine Touch.drewN ?_ _ | refine Touch.drew ?_ | refine Touch.set ?_ (.inr (by simp)) _ | refine Touch.alloc ?_ _))
theorem newest_yes (h : IsTab w t F s cap) (hc : s.cnt ≤ 1099511627776) (i : Int) (hi : 0 ≤ i ∧ i < s.L.length) (x : Fld) (hx : s.L[(s.L.length - 1 - i).toNat]? = some x) :
    Calls Try.prog 22 #[.pointer (some ⟨t, 0, none⟩), .int .u64 i] w fun e w' => e = .returned (fopt (some x)) ∧ Touch [] w w' := by
  obtain ⟨a0, c, bw, bn, h1, h2, h3, h4, rfl, h5, h6⟩ := h
  have c0 := h1.cell 0
  have hl := h1.lt
  simp only [List.getElem?_cons_zero] at c0
  obtain ⟨g, o, rfl, d0, d1, hg⟩ := h2.two rfl _ x hx
  obtain ⟨k, hk0⟩ : ∃ k, ((s.L.length : Int) - 1 - i).toNat = k := ⟨_, rfl⟩
  rw [hk0] at d0 d1
  obtain ⟨x1, x2⟩ := x
  simp only at d0 d1
  have hlb : decide ((s.L.length : Int) ≤ i) = false := by simp; omega
  have e0 : IntKind.u64.wrap ((s.L.length : Int)) = (s.L.length : Int) := IntWalk.u64_in _ (by omega)
  have e1 : IntKind.u64.wrap ((s.L.length : Int) - 1) = (s.L.length : Int) - 1 := IntWalk.u64_in _ (by omega)
  have e2 : IntKind.u64.wrap ((s.L.length : Int) - 1 - i) = (k : Int) := by rw [IntWalk.u64_in _ (by omega)]; omega
  have hkk : (k : Int) < (s.L.length : Int) := by omega
  have hk1 : (0 : Int) ≤ (k : Int) := by omega
  have hb1 : (s.L.length : Int) ≤ 1099511627776 := by omega
  have n0 := World.new_ne w _ c0
  have n1 := World.new_ne w _ d0
  have n2 := World.new_ne w _ d1
  clear h1 h2 h3 h4 h5 hx hk0
  go_enter Try.func22, Try.ntmps22
  go_wp2_with fail
  go_region_held3 (fun w' => w'.cell? ⟨t, 0, none⟩ = some (.slice (some ⟨g, o, none⟩) s.L.length c) ∧ w'.cell? ⟨g, o + k * 2, none⟩ = some (.string x1) ∧ w'.cell? ⟨g, o + k * 2 + 1, none⟩ = some (.string x2)) (go_keep) (fail)
  all_goals
    go_wp2_with fail
    refine bodyPost_ret (v := fopt (some (x1, x2))) (by simp [results, Try.results22, go_sem, fopt, keyW]; try rfl) rfl ⟨rfl, ?_⟩
    (repeat (first | exact Touch.refl _ _ | refine Touch.drewN ?_ _ | refine Touch.drew ?_ | refine Touch.set ?_ (.inr (by simp)) _ | refine Touch.alloc ?_ _))
theorem refNewest_no (h : IsRef w t F s cap) (hc : s.cnt ≤ 1099511627776) (i : Int) (hi : (s.L.length : Int) ≤ i) :
    Calls Try.prog 28 #[.pointer (some ⟨t, 0, none⟩), .int .u64 i] w fun e w' => e = .returned (fopt none) ∧ Touch [] w w' := by
  obtain ⟨a0, c, h1, h2, rfl, h5, h6⟩ := h
  have c0 := h1.cell 0
  have hl := h1.lt
  simp only [List.getElem?_cons_zero] at c0
  have hlb : decide ((s.L.length : Int) ≤ i) = true := by simpa using hi
  have hb1 : (s.L.length : Int) ≤ 1099511627776 := by omega
  clear h1 h2 h5
  go_enter Try.func28, Try.ntmps28
  go_wp2_with fail
  refine bodyPost_ret (v := fopt none) (by simp [results, Try.results28, go_sem, fopt, keyW]; try rfl) rfl ⟨rfl, ?_⟩
  (repeat (first | exact Touch.refl _ _ | refine Touch.drewN ?_ _ | refine Touch.drew ?_ | refine Touch.set ?_ (.inr (by simp)) _ | refine Touch.alloc ?_ _))
theorem refNewest_yes (h : IsRef w t F s cap) (hc : s.cnt ≤ 1099511627776) (i : Int) (hi : 0 ≤ i ∧ i < s.L.length) (x : Fld) (hx : s.L[(s.L.length - 1 - i).toNat]? = some x) :
    Calls Try.prog 28 #[.pointer (some ⟨t, 0, none⟩), .int .u64 i] w fun e w' => e = .returned (fopt (some x)) ∧ Touch [] w w' := by
  obtain ⟨a0, c, h1, h2, rfl, h5, h6⟩ := h
  have c0 := h1.cell 0
  have hl := h1.lt
  simp only [List.getElem?_cons_zero] at c0
  obtain ⟨g, o, rfl, d0, d1, hg⟩ := h2.two rfl _ x hx
  obtain ⟨k, hk0⟩ : ∃ k, ((s.L.length : Int) - 1 - i).toNat = k := ⟨_, rfl⟩
  rw [hk0] at d0 d1
  obtain ⟨x1, x2⟩ := x
  simp only at d0 d1
  have hlb : decide ((s.L.length : Int) ≤ i) = false := by simp; omega
  have e0 : IntKind.u64.wrap ((s.L.length : Int)) = (s.L.length : Int) := IntWalk.u64_in _ (by omega)
  have e1 : IntKind.u64.wrap ((s.L.length : Int) - 1) = (s.L.length : Int) - 1 := IntWalk.u64_in _ (by omega)
  have e2 : IntKind.u64.wrap ((s.L.length : Int) - 1 - i) = (k : Int) := by rw [IntWalk.u64_in _ (by omega)]; omega
  have hkk : (k : Int) < (s.L.length : Int) := by omega
  have hk1 : (0 : Int) ≤ (k : Int) := by omega
  have hb1 : (s.L.length : Int) ≤ 1099511627776 := by omega
  have n0 := World.new_ne w _ c0
  have n1 := World.new_ne w _ d0
  have n2 := World.new_ne w _ d1
  clear h1 h2 h5 hx hk0
  go_enter Try.func28, Try.ntmps28
  go_wp2_with fail
  go_region_held3 (fun w' => w'.cell? ⟨t, 0, none⟩ = some (.slice (some ⟨g, o, none⟩) s.L.length c) ∧ w'.cell? ⟨g, o + k * 2, none⟩ = some (.string x1) ∧ w'.cell? ⟨g, o + k * 2 + 1, none⟩ = some (.string x2)) (go_keep) (fail)
  all_goals
    go_wp2_with fail
    refine bodyPost_ret (v := fopt (some (x1, x2))) (by simp [results, Try.results28, go_sem, fopt, keyW]; try rfl) rfl ⟨rfl, ?_⟩
    (repeat (first | exact Touch.refl _ _ | refine Touch.drewN ?_ _ | refine Touch.drew ?_ | refine Touch.set ?_ (.inr (by simp)) _ | refine Touch.alloc ?_ _))
end
end Go.Proofs.Ytfkmcbkhodppmaa
