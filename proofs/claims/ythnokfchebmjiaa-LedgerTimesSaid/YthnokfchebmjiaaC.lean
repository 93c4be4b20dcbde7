/- Whether one of the ranges holds a number, or a whole range. Conditions: none of their own. -/
import Derived.Test.YthnokfchebmjiaaRgG
import Derived.Test.YthnokfchebmjiaaM
namespace Go.Proofs.Ythnokfchebmjiaa
open Go.RowKit

def whB (r1 r2 : Nat) (L : List Rng) : Bool := L.any fun x => decide (x.1 ≤ r1) && decide (r2 ≤ x.2)
theorem in1_any (w : World) (q n x1 x2 : Nat) (hq : w.cell? ⟨q, 0, none⟩ = some (.int .u64 (n : Int))) :
    Calls Try.prog 43 #[.agg #[.int .u64 (x1 : Int), .int .u64 (x2 : Int)], .pointer (some ⟨q, 0, none⟩)] w fun e w' => e = .returned (.bool (decide (x1 ≤ n) && decide (n ≤ x2))) ∧ Touch [] w w' := by
  have hl := World.block_lt_of_cell? w ⟨q, 0, none⟩ hq
  simp only at hl
  by_cases h1 : x1 ≤ n
  · have i1 : (x1 : Int) ≤ (n : Int) := by omega
    go_enter Try.func43, Try.ntmps43
    go_wp2_with fail
    all_goals go_ret
    all_goals exact ⟨ret_b (by simp [h1]), (Touch.refl _ _).alloc _⟩
  · have i1 : ¬ (x1 : Int) ≤ (n : Int) := by omega
    go_enter Try.func43, Try.ntmps43
    go_wp2_with fail
    all_goals go_ret
    all_goals exact ⟨ret_b (by simp), (Touch.refl _ _).alloc _⟩

set_option maxHeartbeats 1000000 in
theorem indexIn_any (w : World) (v : Value) (q n : Nat) (L : List Rng) (hv : Rd w 2 v L.length (cr L)) (hn : L.length ≤ maxLen) (hq : w.cell? ⟨q, 0, none⟩ = some (.int .u64 (n : Int))) :
    Calls Try.prog 47 #[v, .func (.func 43) #[] #[.pointer (some ⟨q, 0, none⟩)]] w fun e w' => ∃ z : Int, e = .returned (.int .i64 z) ∧ decide (0 ≤ z) = hasB n L ∧ Touch [] w w' := by
  obtain ⟨a, c, rfl⟩ := hv.form
  have HX := Lib.hid hv
  have HQ := Lib.hid hq
  unfold maxLen at hn
  clear hv hq
  go_enter Try.func47, Try.ntmps47
  go_wp2_with fail
  go_loopw [8] (fun i wr => ∃ k : Nat, k ≤ L.length ∧ i = .int .i64 (k : Int) ∧ hasB n (L.take k) = false ∧ Touch [] w wr) (fun i _ => L.length - (intOf i).toNat)
  case atStart => exact ⟨0, by omega, rfl, rfl, Touch.refl _ _⟩
  case round =>
    obtain ⟨k, hk, rfl, hf, hT⟩ := hrel
    have HT := Lib.hid hT
    clear hT
    by_cases hlt : k < L.length
    · obtain ⟨x, hx⟩ : ∃ x, L[k]? = some x := ⟨_, List.getElem?_eq_getElem hlt⟩
      obtain ⟨g, o, rfl⟩ := HX.out.some (by omega)
      obtain ⟨c1, c2, hg⟩ := (HX.out.touch HT.out (by simp)).two rfl k x hx
      have hs := hasB_take n L k x hx hf
      have ho := hasB_of_take n L (k + 1)
      obtain ⟨x1, x2⟩ := x
      simp only at c1 c2 hs
      have HS := Lib.hid hs
      have HO := Lib.hid ho
      have HK := Lib.hid ((HT.out.cell HQ.out (by simp)))
      clear hx hs ho hf
      obtain ⟨B, hB⟩ : ∃ B, B = (decide (x1 ≤ n) && decide (n ≤ x2)) := ⟨_, rfl⟩
      have HB := Lib.hid hB
      clear hB
      cases B with
      | true =>
        go_wp2_with (go_at_call 43; refine (in1_any _ q n x1 x2 HK.out).mono ?_; rw [← HB.out]; rintro e w2 ⟨rfl, hT2⟩)
        go_ret
        rename_i hT2
        exact ⟨_, rfl, by rw [HO.out (by rw [HS.out, ← HB.out])]; simp, HT.out.trans hT2 (by simp)⟩
      | false =>
        go_wp2_with (go_at_call 43; refine (in1_any _ q n x1 x2 HK.out).mono ?_; rw [← HB.out]; rintro e w2 ⟨rfl, hT2⟩)
        go_roundw
        case rel => exact ⟨k + 1, by omega, by go_num, by rw [HS.out, ← HB.out], HT.out.trans hT2 (by simp)⟩
        case measure => simp [intOf]; omega
    · obtain rfl : k = L.length := by omega
      rw [List.take_length] at hf
      have HF := Lib.hid hf
      clear hf
      go_wp2_with fail
      go_ret
      exact ⟨_, rfl, by rw [HF.out]; rfl, HT.out⟩

theorem containsIn_any (w : World) (v : Value) (q n : Nat) (L : List Rng) (hv : Rd w 2 v L.length (cr L)) (hn : L.length ≤ maxLen) (hq : w.cell? ⟨q, 0, none⟩ = some (.int .u64 (n : Int))) :
    Calls Try.prog 39 #[v, .func (.func 43) #[] #[.pointer (some ⟨q, 0, none⟩)]] w fun e w' => e = .returned (.bool (hasB n L)) ∧ Touch [] w w' := by
  have HC := Lib.hid (indexIn_any w v q n L hv hn hq)
  obtain ⟨a, c, rfl⟩ := hv.form
  clear hv hq
  go_enter Try.func39, Try.ntmps39
  go_wp2_with (go_at_call 47; refine HC.out.mono ?_; rintro e w2 ⟨z, rfl, hz, hT2⟩; have HZ := Lib.hid hz; have HT := Lib.hid hT2; clear hz hT2)
  go_ret
  exact ⟨ret_b HZ.out, HT.out⟩

theorem whole1_any (w : World) (q r1 r2 x1 x2 : Nat) (hq : w.cell? ⟨q, 0, none⟩ = some (.int .u64 (r1 : Int)) ∧ w.cell? ⟨q, 1, none⟩ = some (.int .u64 (r2 : Int))) :
    Calls Try.prog 41 #[.agg #[.int .u64 (x1 : Int), .int .u64 (x2 : Int)], .pointer (some ⟨q, 0, none⟩)] w fun e w' => e = .returned (.bool (decide (x1 ≤ r1) && decide (r2 ≤ x2))) ∧ Touch [] w w' := by
  obtain ⟨hq, hq'⟩ := hq
  have hl := World.block_lt_of_cell? w ⟨q, 0, none⟩ hq
  simp only at hl
  by_cases h1 : x1 ≤ r1
  · have i1 : (x1 : Int) ≤ (r1 : Int) := by omega
    go_enter Try.func41, Try.ntmps41
    go_wp2_with fail
    all_goals go_ret
    all_goals exact ⟨ret_b (by simp [h1]), (Touch.refl _ _).alloc _⟩
  · have i1 : ¬ (x1 : Int) ≤ (r1 : Int) := by omega
    go_enter Try.func41, Try.ntmps41
    go_wp2_with fail
    all_goals go_ret
    all_goals exact ⟨ret_b (by simp), (Touch.refl _ _).alloc _⟩

theorem whB_take (r1 r2 : Nat) (L : List Rng) (k : Nat) (x : Rng) (hx : L[k]? = some x) (h : whB r1 r2 (L.take k) = false) : whB r1 r2 (L.take (k + 1)) = (decide (x.1 ≤ r1) && decide (r2 ≤ x.2)) := by
  unfold whB at *
  rw [List.take_add_one, hx, List.any_append, h]
  simp
theorem whB_of_take (r1 r2 : Nat) (L : List Rng) (k : Nat) (h : whB r1 r2 (L.take k) = true) : whB r1 r2 L = true := by
  rw [← List.take_append_drop k L]
  unfold whB at *
  rw [List.any_append, h]
  rfl

set_option maxHeartbeats 1000000 in
theorem indexWh_any (w : World) (v : Value) (q r1 r2 : Nat) (L : List Rng) (hv : Rd w 2 v L.length (cr L)) (hn : L.length ≤ maxLen) (hq : w.cell? ⟨q, 0, none⟩ = some (.int .u64 (r1 : Int)) ∧ w.cell? ⟨q, 1, none⟩ = some (.int .u64 (r2 : Int))) :
    Calls Try.prog 47 #[v, .func (.func 41) #[] #[.pointer (some ⟨q, 0, none⟩)]] w fun e w' => ∃ z : Int, e = .returned (.int .i64 z) ∧ decide (0 ≤ z) = whB r1 r2 L ∧ Touch [] w w' := by
  obtain ⟨a, c, rfl⟩ := hv.form
  have HX := Lib.hid hv
  have HQ := Lib.hid hq
  unfold maxLen at hn
  clear hv hq
  go_enter Try.func47, Try.ntmps47
  go_wp2_with fail
  go_loopw [8] (fun i wr => ∃ k : Nat, k ≤ L.length ∧ i = .int .i64 (k : Int) ∧ whB r1 r2 (L.take k) = false ∧ Touch [] w wr) (fun i _ => L.length - (intOf i).toNat)
  case atStart => exact ⟨0, by omega, rfl, rfl, Touch.refl _ _⟩
  case round =>
    obtain ⟨k, hk, rfl, hf, hT⟩ := hrel
    have HT := Lib.hid hT
    clear hT
    by_cases hlt : k < L.length
    · obtain ⟨x, hx⟩ : ∃ x, L[k]? = some x := ⟨_, List.getElem?_eq_getElem hlt⟩
      obtain ⟨g, o, rfl⟩ := HX.out.some (by omega)
      obtain ⟨c1, c2, hg⟩ := (HX.out.touch HT.out (by simp)).two rfl k x hx
      have hs := whB_take r1 r2 L k x hx hf
      have ho := whB_of_take r1 r2 L (k + 1)
      obtain ⟨x1, x2⟩ := x
      simp only at c1 c2 hs
      have HS := Lib.hid hs
      have HO := Lib.hid ho
      have HK := Lib.hid (And.intro (HT.out.cell HQ.out.1 (by simp)) (HT.out.cell HQ.out.2 (by simp)))
      clear hx hs ho hf
      obtain ⟨B, hB⟩ : ∃ B, B = (decide (x1 ≤ r1) && decide (r2 ≤ x2)) := ⟨_, rfl⟩
      have HB := Lib.hid hB
      clear hB
      cases B with
      | true =>
        go_wp2_with (go_at_call 41; refine (whole1_any _ q r1 r2 x1 x2 HK.out).mono ?_; rw [← HB.out]; rintro e w2 ⟨rfl, hT2⟩)
        go_ret
        rename_i hT2
        exact ⟨_, rfl, by rw [HO.out (by rw [HS.out, ← HB.out])]; simp, HT.out.trans hT2 (by simp)⟩
      | false =>
        go_wp2_with (go_at_call 41; refine (whole1_any _ q r1 r2 x1 x2 HK.out).mono ?_; rw [← HB.out]; rintro e w2 ⟨rfl, hT2⟩)
        go_roundw
        case rel => exact ⟨k + 1, by omega, by go_num, by rw [HS.out, ← HB.out], HT.out.trans hT2 (by simp)⟩
        case measure => simp [intOf]; omega
    · obtain rfl : k = L.length := by omega
      rw [List.take_length] at hf
      have HF := Lib.hid hf
      clear hf
      go_wp2_with fail
      go_ret
      exact ⟨_, rfl, by rw [HF.out]; rfl, HT.out⟩

theorem containsWh_any (w : World) (v : Value) (q r1 r2 : Nat) (L : List Rng) (hv : Rd w 2 v L.length (cr L)) (hn : L.length ≤ maxLen) (hq : w.cell? ⟨q, 0, none⟩ = some (.int .u64 (r1 : Int)) ∧ w.cell? ⟨q, 1, none⟩ = some (.int .u64 (r2 : Int))) :
    Calls Try.prog 39 #[v, .func (.func 41) #[] #[.pointer (some ⟨q, 0, none⟩)]] w fun e w' => e = .returned (.bool (whB r1 r2 L)) ∧ Touch [] w w' := by
  have HC := Lib.hid (indexWh_any w v q r1 r2 L hv hn hq)
  obtain ⟨a, c, rfl⟩ := hv.form
  clear hv hq
  go_enter Try.func39, Try.ntmps39
  go_wp2_with (go_at_call 47; refine HC.out.mono ?_; rintro e w2 ⟨z, rfl, hz, hT2⟩; have HZ := Lib.hid hz; have HT := Lib.hid hT2; clear hz hT2)
  go_ret
  exact ⟨ret_b HZ.out, HT.out⟩


theorem in_any (w : World) (v : Value) (n : Nat) (L : List Rng) (hv : Rd w 2 v L.length (cr L)) (hn : L.length ≤ maxLen) :
    Calls Try.prog 26 #[v, .int .u64 (n : Int)] w fun e w' => e = .returned (.bool (hasB n L)) ∧ Touch [] w w' := by
  have HX := Lib.hid hv
  have HN := Lib.hid hn
  obtain ⟨a, c, rfl⟩ := hv.form
  clear hv hn
  go_enter Try.func26, Try.ntmps26
  go_wp2_with (go_at_call 39; refine (containsIn_any _ _ w.heap.size n L (HX.out.touch ((Touch.refl [] w).alloc _) (by simp)) HN.out ((World.cell?_alloc_at (w := w) _ _ w.heap.size 0 rfl).trans rfl)).mono ?_; rintro e w2 ⟨rfl, hT2⟩; have HT := Lib.hid hT2; clear hT2)
  go_ret
  exact ⟨rfl, ((Touch.refl [] w).alloc _).trans HT.out (by simp)⟩
end Go.Proofs.Ythnokfchebmjiaa
