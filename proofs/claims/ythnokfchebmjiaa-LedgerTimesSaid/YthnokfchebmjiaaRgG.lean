/- The contracts of the document's Count, and of Has on both sides. Conditions: none beyond the set's. -/
import Derived.Test.YthnokfchebmjiaaRgE
namespace Go.Proofs.Ythnokfchebmjiaa
open Go.RowKit

theorem has1_any (w : World) (q n x1 x2 : Nat) (hq : w.cell? ⟨q, 0, none⟩ = some (.int .u64 (n : Int))) :
    Calls Try.prog 45 #[.agg #[.int .u64 (x1 : Int), .int .u64 (x2 : Int)], .pointer (some ⟨q, 0, none⟩)] w fun e w' => e = .returned (.bool (decide (x1 ≤ n) && decide (n ≤ x2))) ∧ Touch [] w w' := by
  have hl := World.block_lt_of_cell? w ⟨q, 0, none⟩ hq
  simp only at hl
  by_cases h1 : x1 ≤ n
  · have i1 : (x1 : Int) ≤ (n : Int) := by omega
    go_enter Try.func45, Try.ntmps45
    go_wp2_with fail
    all_goals go_ret
    all_goals exact ⟨ret_b (by simp [h1]), (Touch.refl _ _).alloc _⟩
  · have i1 : ¬ (x1 : Int) ≤ (n : Int) := by omega
    go_enter Try.func45, Try.ntmps45
    go_wp2_with fail
    all_goals go_ret
    all_goals exact ⟨ret_b (by simp), (Touch.refl _ _).alloc _⟩

theorem hasB_take (n : Nat) (L : List Rng) (k : Nat) (x : Rng) (hx : L[k]? = some x) (h : hasB n (L.take k) = false) : hasB n (L.take (k + 1)) = (decide (x.1 ≤ n) && decide (n ≤ x.2)) := by
  unfold hasB at *
  rw [List.take_add_one, hx, List.any_append, h]
  simp
theorem hasB_of_take (n : Nat) (L : List Rng) (k : Nat) (h : hasB n (L.take k) = true) : hasB n L = true := by
  rw [← List.take_append_drop k L]
  unfold hasB at *
  rw [List.any_append, h]
  rfl

set_option maxHeartbeats 1000000 in
theorem index_any (w : World) (v : Value) (q n : Nat) (L : List Rng) (hv : Rd w 2 v L.length (cr L)) (hn : L.length ≤ maxLen) (hq : w.cell? ⟨q, 0, none⟩ = some (.int .u64 (n : Int))) :
    Calls Try.prog 47 #[v, .func (.func 45) #[] #[.pointer (some ⟨q, 0, none⟩)]] w fun e w' => ∃ z : Int, e = .returned (.int .i64 z) ∧ decide (0 ≤ z) = hasB n L ∧ Touch [] w w' := by
  obtain ⟨a, c, rfl⟩ := hv.form
  have HX := Lib.hid hv
  have HQ := Lib.hid hq
  unfold maxLen at hn
  clear hv hq
  go_enter Try.func47, Try.ntmps47
  go_wp2_with fail
  go_loopw [8] (fun i wr => ∃ k : Nat, k ≤ L.length ∧ i = .int .i64 (k : Int) ∧ hasB n (L.take k) = false ∧ Touch [] w wr) (fun i _ => L.length - (intOf i).toNat)
  case atStart => exact ⟨0, by omega, rfl, rfl, Touch.refl _ _⟩
  case round =>
    obtain ⟨k, hk, rfl, hf, hT⟩ := hrel
    have HT := Lib.hid hT
    clear hT
    by_cases hlt : k < L.length
    · obtain ⟨x, hx⟩ : ∃ x, L[k]? = some x := ⟨_, List.getElem?_eq_getElem hlt⟩
      obtain ⟨g, o, rfl⟩ := HX.out.some (by omega)
      obtain ⟨c1, c2, hg⟩ := (HX.out.touch HT.out (by simp)).two rfl k x hx
      have hs := hasB_take n L k x hx hf
      have ho := hasB_of_take n L (k + 1)
      obtain ⟨x1, x2⟩ := x
      simp only at c1 c2 hs
      have HS := Lib.hid hs
      have HO := Lib.hid ho
      have HK := Lib.hid ((HT.out.cell HQ.out (by simp)))
      clear hx hs ho hf
      obtain ⟨B, hB⟩ : ∃ B, B = (decide (x1 ≤ n) && decide (n ≤ x2)) := ⟨_, rfl⟩
      have HB := Lib.hid hB
      clear hB
      cases B with
      | true =>
        go_wp2_with (go_at_call 45; refine (has1_any _ q n x1 x2 HK.out).mono ?_; rw [← HB.out]; rintro e w2 ⟨rfl, hT2⟩)
        go_ret
        rename_i hT2
        exact ⟨_, rfl, by rw [HO.out (by rw [HS.out, ← HB.out])]; simp, HT.out.trans hT2 (by simp)⟩
      | false =>
        go_wp2_with (go_at_call 45; refine (has1_any _ q n x1 x2 HK.out).mono ?_; rw [← HB.out]; rintro e w2 ⟨rfl, hT2⟩)
        go_roundw
        case rel => exact ⟨k + 1, by omega, by go_num, by rw [HS.out, ← HB.out], HT.out.trans hT2 (by simp)⟩
        case measure => simp [intOf]; omega
    · obtain rfl : k = L.length := by omega
      rw [List.take_length] at hf
      have HF := Lib.hid hf
      clear hf
      go_wp2_with fail
      go_ret
      exact ⟨_, rfl, by rw [HF.out]; rfl, HT.out⟩

theorem contains_any (w : World) (v : Value) (q n : Nat) (L : List Rng) (hv : Rd w 2 v L.length (cr L)) (hn : L.length ≤ maxLen) (hq : w.cell? ⟨q, 0, none⟩ = some (.int .u64 (n : Int))) :
    Calls Try.prog 39 #[v, .func (.func 45) #[] #[.pointer (some ⟨q, 0, none⟩)]] w fun e w' => e = .returned (.bool (hasB n L)) ∧ Touch [] w w' := by
  have HC := Lib.hid (index_any w v q n L hv hn hq)
  obtain ⟨a, c, rfl⟩ := hv.form
  clear hv hq
  go_enter Try.func39, Try.ntmps39
  go_wp2_with (go_at_call 47; refine HC.out.mono ?_; rintro e w2 ⟨z, rfl, hz, hT2⟩; have HZ := Lib.hid hz; have HT := Lib.hid hT2; clear hz hT2)
  go_ret
  exact ⟨ret_b HZ.out, HT.out⟩

theorem has_any (w : World) (p : Nat) (F : List Nat) (L : List Rng) (b n : Nat) (h : IsS w p 79 F L b) :
    Calls Try.prog 37 #[.pointer (some ⟨p, 0, none⟩), .int .u64 (n : Int)] w fun e w' => e = .returned (.bool (hasB n L)) ∧ Touch [] w w' := by
  obtain ⟨a, c, h1, h2, rfl, h5, h6⟩ := h
  have c0 := h1.cell 0
  simp only [List.getElem?_cons_zero] at c0
  have hl := h1.lt
  have HN := Lib.hid h2.wide
  have HX := Lib.hid h2.rd
  clear h1 h2 h5 h6
  go_enter Try.func37, Try.ntmps37
  go_wp2_with (go_at_call 39; refine (contains_any _ _ w.heap.size n L (HX.out.touch ((Touch.refl [] w).alloc _) (by simp)) HN.out ((World.cell?_alloc_at (w := w) _ _ w.heap.size 0 rfl).trans rfl)).mono ?_; rintro e w2 ⟨rfl, hT2⟩; have HT := Lib.hid hT2; clear hT2)
  go_ret
  exact ⟨rfl, ((Touch.refl [] w).alloc _).trans HT.out (by simp)⟩

end Go.Proofs.Ythnokfchebmjiaa
