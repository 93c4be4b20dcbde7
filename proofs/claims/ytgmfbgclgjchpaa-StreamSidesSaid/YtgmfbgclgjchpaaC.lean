/- The walks of a frame's move, of a state's name, of the rule that is broken. Conditions: flags 0 or 1. -/
import Derived.Test.YtgmfbgclgjchpaaB
namespace Go.Proofs.Ytgmfbgclgjchpaa
open Go.RowKit Go.Maps Go.WideMaps

/-- A frame of a kind and flags, of stream 0, without bytes. -/
abbrev FR (t fl : Int) : Value := .agg #[.int .u8 t, .int .u8 fl, .int .u32 0, .slice none 0 0]
def endB (t fl : Int) : Bool := (fl == 1) && ((t == 1) || (t == 0))

theorem of_any (s t fl : Int) (w : World) (hf : fl = 0 ∨ fl = 1) :
    Calls Try.prog 10 #[.int .i64 s, .agg #[.int .u8 t, .int .u8 fl, .int .u32 0, .slice none 0 0]] w fun e w' => e = .returned (keyV (s, t, endB t fl)) ∧ Below w.heap.size w w' := by
  rcases hf with rfl | rfl
  · have he : endB t 0 = false := by simp [endB]
    rw [he]
    go_enter Try.func10, Try.ntmps10
    go_wp2
    refine bodyPost_ret (v := keyV (s, t, false)) (by simp [results, Try.results10, go_sem, keyV]) rfl ⟨rfl, ?_⟩
    exact ((Below.refl _ _).alloc (Nat.le_refl _) _).alloc (by simp) _
  · rcases (show t = 1 ∨ t = 0 ∨ (t ≠ 1 ∧ t ≠ 0) from by omega) with rfl | rfl | ⟨h1, h2⟩
    · have hbit : bits BinOp.and IntKind.u8 1 1 = 1 := by decide
      go_enter Try.func10, Try.ntmps10
      go_wp2
      refine bodyPost_ret (v := keyV (s, 1, true)) (by simp [results, Try.results10, go_sem, keyV]) rfl ⟨rfl, ?_⟩
      exact ((Below.refl _ _).alloc (Nat.le_refl _) _).alloc (by simp) _
    · have hbit : bits BinOp.and IntKind.u8 1 1 = 1 := by decide
      go_enter Try.func10, Try.ntmps10
      go_wp2
      refine bodyPost_ret (v := keyV (s, 0, true)) (by simp [results, Try.results10, go_sem, keyV]) rfl ⟨rfl, ?_⟩
      exact ((Below.refl _ _).alloc (Nat.le_refl _) _).alloc (by simp) _
    · have e1 : (t == 1) = false := by simp [h1]
      have e2 : (t == 0) = false := by simp [h2]
      have he : endB t 1 = false := by simp [endB, h1, h2]
      rw [he]
      clear he h1 h2
      go_enter Try.func10, Try.ntmps10
      go_wp2
      refine bodyPost_ret (v := keyV (s, t, false)) (by simp [results, Try.results10, go_sem, keyV]) rfl ⟨rfl, ?_⟩
      exact ((Below.refl _ _).alloc (Nat.le_refl _) _).alloc (by simp) _

def brokenF (s t : Int) : Int := if t = 1 ∨ t = 0 ∨ t = 9 ∨ t = 3 ∨ t = 8 then (if s = 0 then 6 else 5) else 9
theorem broken_any (s t fl : Int) (w : World) :
    Calls Try.prog 11 #[.int .i64 s, .agg #[.int .u8 t, .int .u8 fl, .int .u32 0, .slice none 0 0]] w fun e w' => e = .returned (.int .i64 (brokenF s t)) ∧ Below w.heap.size w w' := by
  rcases (show t = 1 ∨ t = 0 ∨ t = 9 ∨ t = 3 ∨ t = 8 ∨ (t ≠ 1 ∧ t ≠ 0 ∧ t ≠ 9 ∧ t ≠ 3 ∧ t ≠ 8) from by omega) with rfl | rfl | rfl | rfl | rfl | ⟨h1, h2, h3, h4, h5⟩
  iterate 5
    · by_cases hs : s = 0
      · subst hs
        go_enter Try.func11, Try.ntmps11
        go_wp2
        go_ret
        exact ⟨rfl, (Below.refl _ _).alloc (Nat.le_refl _) _⟩
      · have e0 : (s == 0) = false := by simp [hs]
        simp only [brokenF, hs, if_false]
        clear hs
        go_enter Try.func11, Try.ntmps11
        go_wp2
        go_ret
        exact ⟨rfl, (Below.refl _ _).alloc (Nat.le_refl _) _⟩
  · have e1 : (t == 1) = false := by simp [h1]
    have e2 : (t == 0) = false := by simp [h2]
    have e3 : (t == 9) = false := by simp [h3]
    have e4 : (t == 3) = false := by simp [h4]
    have e5 : (t == 8) = false := by simp [h5]
    simp only [brokenF, h1, h2, h3, h4, h5, or_self, if_false]
    clear h1 h2 h3 h4 h5
    go_enter Try.func11, Try.ntmps11
    go_wp2
    go_ret
    exact ⟨rfl, (Below.refl _ _).alloc (Nat.le_refl _) _⟩

def nameB (s : Int) : ByteArray :=
  if s = 0 then ⟨#[105, 100, 108, 101]⟩ else if s = 1 then ⟨#[111, 112, 101, 110]⟩ else if s = 2 then ⟨#[104, 97, 108, 102, 45, 99, 108, 111, 115, 101, 100, 32, 40, 108, 111, 99, 97, 108, 41]⟩
  else if s = 3 then ⟨#[104, 97, 108, 102, 45, 99, 108, 111, 115, 101, 100, 32, 40, 114, 101, 109, 111, 116, 101, 41]⟩ else if s = 4 then ⟨#[99, 108, 111, 115, 101, 100]⟩ else ⟨#[]⟩
theorem name_any (s : Int) (w : World) (hs : s = 0 ∨ s = 1 ∨ s = 2 ∨ s = 3 ∨ s = 4 ∨ s = 9) : Calls Try.prog 8 #[.int .i64 s] w fun e w' => e = .returned (.string (nameB s)) ∧ w = w' := by
  rcases hs with rfl | rfl | rfl | rfl | rfl | rfl
  all_goals
    go_enter Try.func8, Try.ntmps8
    go_wp2
    go_ret
    exact ⟨rfl, rfl⟩
end Go.Proofs.Ytgmfbgclgjchpaa
