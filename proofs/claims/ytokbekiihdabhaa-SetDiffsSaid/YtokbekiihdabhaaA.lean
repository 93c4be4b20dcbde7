/- The walks of single settings: what is wrong with one, where it lies, those of the beginning, the document's row. Conditions: the numbers fit their kinds. -/
import Derived.Test.YtokbekiihdabhaaBase
namespace Go.Proofs.Ytokbekiihdabhaa
open Go.RowKit

structure S6 where
  t : Int
  p : Int
  s : Int
  w : Int
  f : Int
  l : Int

def S6.cells (x : S6) : List Value := [.int .u64 x.t, .int .u64 x.p, .int .u64 x.s, .int .u64 x.w, .int .u64 x.f, .int .u64 x.l]
def S6.cells7 (x : S6) : List Value := [.int .u64 0, .int .u64 x.t, .int .u64 x.p, .int .u64 x.s, .int .u64 x.w, .int .u64 x.f, .int .u64 x.l]
def wrongN (id v : Int) : Int := if id = 2 ∧ 1 < v then 34 else if id = 5 ∧ (v < 16384 ∨ 16777215 < v) then 34 else if id = 4 ∧ 2147483647 < v then 31 else 0
def S6.get (x : S6) (id : Int) : Int := if id = 1 then x.t else if id = 2 then x.p else if id = 3 then x.s else if id = 4 then x.w else if id = 5 then x.f else x.l
def S6.set (x : S6) (id v : Int) : S6 :=
  if id = 1 then { x with t := v } else if id = 2 then { x with p := v } else if id = 3 then { x with s := v } else if id = 4 then { x with w := v } else if id = 5 then { x with f := v } else if id = 6 then { x with l := v } else x
def S6.zero : S6 := ⟨0, 0, 0, 0, 0, 0⟩
def S6.dflt : S6 := ⟨4096, 1, 4294967295, 65535, 16384, 4294967295⟩
def applyL : S6 → List (Int × Int) → S6 × Int
  | x, [] => (x, 0)
  | x, c :: r => if wrongN c.1 c.2 = 0 then applyL (x.set c.1 c.2) r else (S6.zero, wrongN c.1 c.2)

theorem wrong_any (id v : Int) (w : World) : Calls Try.prog 14 #[.agg #[.int .u64 id, .int .u64 v]] w fun e w' => e = .returned (.int .i64 (wrongN id v)) ∧ Below w.heap.size w w' := by
  rcases (show id = 2 ∨ id = 5 ∨ id = 4 ∨ (id ≠ 2 ∧ id ≠ 5 ∧ id ≠ 4) from by omega) with rfl | rfl | rfl | ⟨h1, h2, h3⟩
  · by_cases h : 1 < v
    all_goals
      have hw : wrongN 2 v = if 1 < v then 34 else 0 := by simp [wrongN]
      rw [hw]
      clear hw
      go_enter Try.func14, Try.ntmps14
      go_wp2
      go_ret
      exact ⟨ret_i (by (repeat' split) <;> omega), (Below.refl _ _).alloc (Nat.le_refl _) _⟩
  · have hw : wrongN 5 v = if v < 16384 then 34 else if 16777215 < v then 34 else 0 := by
      simp only [wrongN]
      by_cases h : v < 16384 <;> by_cases h2 : 16777215 < v <;> simp [h, h2]
    rw [hw]
    clear hw
    rcases (show v < 16384 ∨ 16777215 < v ∨ (16384 ≤ v ∧ v ≤ 16777215) from by omega) with h | h | ⟨h, h'⟩
    all_goals
      go_enter Try.func14, Try.ntmps14
      go_wp2
      go_ret
      exact ⟨ret_i (by (repeat' split) <;> omega), (Below.refl _ _).alloc (Nat.le_refl _) _⟩
  · have hw : wrongN 4 v = if 2147483647 < v then 31 else 0 := by simp [wrongN]
    rw [hw]
    clear hw
    by_cases h : 2147483647 < v
    all_goals
      go_enter Try.func14, Try.ntmps14
      go_wp2
      go_ret
      exact ⟨ret_i (by (repeat' split) <;> omega), (Below.refl _ _).alloc (Nat.le_refl _) _⟩
  · have hw : wrongN id v = 0 := by simp [wrongN, h1, h2, h3]
    rw [hw]
    have e1 : (id == 2) = false := by simp [h1]
    have e2 : (id == 5) = false := by simp [h2]
    have e3 : (id == 4) = false := by simp [h3]
    clear hw h1 h2 h3
    go_enter Try.func14, Try.ntmps14
    go_wp2
    go_ret
    exact ⟨rfl, (Below.refl _ _).alloc (Nat.le_refl _) _⟩

theorem place_none (b : Nat) (id : Int) (w : World) (h : id < 1 ∨ 6 < id) : Calls Try.prog 13 #[.pointer (some ⟨b, 0, none⟩), .int .u64 id] w fun e w' => e = .returned (.pointer none) ∧ w = w' := by
  have e1 : (id == 1) = false := by simp; omega
  have e2 : (id == 2) = false := by simp; omega
  have e3 : (id == 3) = false := by simp; omega
  have e4 : (id == 4) = false := by simp; omega
  have e5 : (id == 5) = false := by simp; omega
  have e6 : (id == 6) = false := by simp; omega
  clear h
  go_enter Try.func13, Try.ntmps13
  go_wp2
  go_ret
  exact ⟨rfl, rfl⟩
theorem place_some (b j : Nat) (w : World) (h : j < 6) : Calls Try.prog 13 #[.pointer (some ⟨b, 0, none⟩), .int .u64 ((j : Int) + 1)] w fun e w' => e = .returned (.pointer (some ⟨b, j, none⟩)) ∧ w = w' := by
  match j, h with
  | 0, _ | 1, _ | 2, _ | 3, _ | 4, _ | 5, _ =>
    go_enter Try.func13, Try.ntmps13
    go_wp2
    go_ret
    exact ⟨rfl, rfl⟩

theorem dflt_any (w : World) : Calls Try.prog 11 #[] w fun e w' => e = .returned (.agg #[.int .u64 4096, .int .u64 1, .int .u64 4294967295, .int .u64 65535, .int .u64 16384, .int .u64 4294967295]) ∧ Below w.heap.size w w' := by
  go_enter Try.func11, Try.ntmps11
  go_wp2
  refine bodyPost_ret (v := .agg #[.int .u64 4096, .int .u64 1, .int .u64 4294967295, .int .u64 65535, .int .u64 16384, .int .u64 4294967295]) (by simp [results, Try.results11, go_sem]) rfl ⟨rfl, ?_⟩
  exact (Below.refl _ _).alloc (Nat.le_refl _) _
theorem dfltR_any (w : World) : Calls Try.prog 12 #[] w fun e w' => e = .returned (.agg #[.int .u64 0, .int .u64 4096, .int .u64 1, .int .u64 4294967295, .int .u64 65535, .int .u64 16384, .int .u64 4294967295]) ∧ Below w.heap.size w w' := by
  go_enter Try.func12, Try.ntmps12
  go_wp2
  refine bodyPost_ret (v := .agg #[.int .u64 0, .int .u64 4096, .int .u64 1, .int .u64 4294967295, .int .u64 65535, .int .u64 16384, .int .u64 4294967295]) (by simp [results, Try.results12, go_sem]) rfl ⟨rfl, ?_⟩
  exact (Below.refl _ _).alloc (Nat.le_refl _) _
theorem of_any (t p s wi f l : Int) (w : World) : Calls Try.prog 7 #[.agg #[.int .u64 t, .int .u64 p, .int .u64 s, .int .u64 wi, .int .u64 f, .int .u64 l]] w fun e w' => e = .returned (.agg #[.int .u64 0, .int .u64 t, .int .u64 p, .int .u64 s, .int .u64 wi, .int .u64 f, .int .u64 l]) ∧ Below w.heap.size w w' := by
  go_enter Try.func7, Try.ntmps7
  go_wp2
  refine bodyPost_ret (v := .agg #[.int .u64 0, .int .u64 t, .int .u64 p, .int .u64 s, .int .u64 wi, .int .u64 f, .int .u64 l]) (by simp [results, Try.results7, go_sem]) rfl ⟨rfl, ?_⟩
  exact ((Below.refl _ _).alloc (Nat.le_refl _) _).alloc (by simp) _
end Go.Proofs.Ytokbekiihdabhaa
