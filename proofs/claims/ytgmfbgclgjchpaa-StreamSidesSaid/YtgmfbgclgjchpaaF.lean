/- The walk of the example, and of the statement on ends. Conditions: the kind is a byte. -/
import Derived.Test.YtgmfbgclgjchpaaE
namespace Go.Proofs.Ytgmfbgclgjchpaa
open Go.RowKit Go.Maps Go.WideMaps

theorem send_at (s t fl a b : Int) (w : World) (hs : 0 ≤ s ∧ s ≤ 4) (ht : 0 ≤ t ∧ t ≤ 255) (hf : fl = 0 ∨ fl = 1) (h : sendF s t fl = (a, b)) :
    Calls Try.prog 6 #[.int .i64 s, .agg #[.int .u8 t, .int .u8 fl, .int .u32 0, .slice none 0 0]] w fun e w' => e = .returned (.tuple #[.int .i64 a, .int .i64 b]) ∧ Below w.heap.size w w' := by
  have := send_any s t fl w hs ht hf
  rw [h] at this
  exact this
theorem recv_at (s t fl a b : Int) (w : World) (hs : 0 ≤ s ∧ s ≤ 4) (ht : 0 ≤ t ∧ t ≤ 255) (hf : fl = 0 ∨ fl = 1) (h : recvF s t fl = (a, b)) :
    Calls Try.prog 7 #[.int .i64 s, .agg #[.int .u8 t, .int .u8 fl, .int .u32 0, .slice none 0 0]] w fun e w' => e = .returned (.tuple #[.int .i64 a, .int .i64 b]) ∧ Below w.heap.size w w' := by
  have := recv_any s t fl w hs ht hf
  rw [h] at this
  exact this
theorem name4 (w : World) : Calls Try.prog 8 #[.int .i64 4] w fun e w' => e = .returned (.string ⟨#[99, 108, 111, 115, 101, 100]⟩) ∧ w = w' := name_any 4 w (by omega)
theorem name9 (w : World) : Calls Try.prog 8 #[.int .i64 9] w fun e w' => e = .returned (.string ⟨#[]⟩) ∧ w = w' := name_any 9 w (by omega)

theorem known_any (w : World) : Calls Try.prog 5 #[] w fun e w' => e = .returned (.bool true) ∧ Below w.heap.size w w' := by
  go_enter Try.func5, Try.ntmps5
  go_wp2_with fail
  refine (send_at 0 1 1 2 0 _ (by omega) (by omega) (.inr rfl) (by decide)).mono ?_
  rintro e w1 ⟨rfl, hb1⟩
  have HB1 := Lib.hid hb1
  clear hb1
  go_wp2_with fail
  refine (recv_at 3 0 0 3 5 _ (by omega) (by omega) (.inl rfl) (by decide)).mono ?_
  rintro e w2 ⟨rfl, hb2⟩
  have HB2 := Lib.hid (HB1.out.trans (hb2.mono HB1.out.size))
  clear hb2
  go_wp2_with fail
  refine (name4 _).mono ?_
  rintro e w3 ⟨rfl, rfl⟩
  go_wp2_with fail
  refine (name9 _).mono ?_
  rintro e w3 ⟨rfl, rfl⟩
  go_wp2_with fail
  go_ret
  exact ⟨rfl, HB2.out⟩
end Go.Proofs.Ytgmfbgclgjchpaa
