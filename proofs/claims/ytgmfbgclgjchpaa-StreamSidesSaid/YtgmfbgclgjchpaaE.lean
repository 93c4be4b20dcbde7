/- The walk of what comes. Conditions: the state is one of the five, the kind a byte, flags 0 or 1. -/
import Derived.Test.YtgmfbgclgjchpaaD
import Derived.Deep.RegionWith
namespace Go.Proofs.Ytgmfbgclgjchpaa
open Go.RowKit Go.Maps Go.WideMaps

def recvF (s t fl : Int) : Int × Int := if 9 < t then (s, 0) else ansE s (brokenF s t) (movesF 3 2 (s, t, endB t fl))

theorem name_five (s : Int) (w : World) (hs : 0 ≤ s ∧ s ≤ 4) : Calls Try.prog 8 #[.int .i64 s] w fun e w' => (∃ b : ByteArray, e = .returned (.string b) ∧ b.toList.isEmpty = false) ∧ w = w' := by
  refine (name_any s w (by omega)).mono ?_
  rintro e w' ⟨rfl, rfl⟩
  refine ⟨⟨_, rfl, ?_⟩, rfl⟩
  rcases (show s = 0 ∨ s = 1 ∨ s = 2 ∨ s = 3 ∨ s = 4 from by omega) with rfl | rfl | rfl | rfl | rfl <;> (rw [ByteArray.toList_eq]; rfl)

set_option maxHeartbeats 1000000 in
theorem recv_any (s t fl : Int) (w : World) (hs : 0 ≤ s ∧ s ≤ 4) (ht : 0 ≤ t ∧ t ≤ 255) (hf : fl = 0 ∨ fl = 1) :
    Calls Try.prog 7 #[.int .i64 s, .agg #[.int .u8 t, .int .u8 fl, .int .u32 0, .slice none 0 0]] w
      fun e w' => e = .returned (.tuple #[.int .i64 (recvF s t fl).1, .int .i64 (recvF s t fl).2]) ∧ Below w.heap.size w w' := by
  have OK := Lib.hid (show OkM (s, t, endB t fl) from okM_of hs ht)
  have HF := Lib.hid hf
  have HS := Lib.hid hs
  clear ht hf hs
  by_cases h9 : 9 < t
  · have HR := Lib.hid (show recvF s t fl = (s, 0) from by simp [recvF, h9])
    go_enter Try.func7, Try.ntmps7
    go_wp2_with fail
    refine (name_five s _ HS.out).mono ?_
    rintro e w1 ⟨⟨nm, rfl, hnm⟩, rfl⟩
    go_wp2_with fail
    go_ret2
    exact ⟨by rw [HR.out]; rfl, (Below.refl _ _).alloc (Nat.le_refl _) _⟩
  · have HR := Lib.hid (show recvF s t fl = ansE s (brokenF s t) (movesF 3 2 (s, t, endB t fl)) from by simp [recvF, h9])
    have h9' : decide (9 < t) = false := by simpa using h9
    go_enter Try.func7, Try.ntmps7
    go_wp2_with fail
    refine (name_five s _ HS.out).mono ?_
    rintro e w1 ⟨⟨nm, rfl, hnm⟩, rfl⟩
    go_wp2_with fail
    generalize hW : w.alloc (.cells #[.int .u8 t, .int .u8 fl, .int .u32 0, .slice none 0 0] 26) = W
    have HI := Lib.hid (show IsBlk W w.heap.size [.int .u8 t, .int .u8 fl, .int .u32 0, .slice none 0 0] 26 from by rw [← hW]; exact IsBlk.new _ _ _)
    have HB := Lib.hid (show Below w.heap.size w W from by rw [← hW]; exact (Below.refl _ _).alloc (Nat.le_refl _) _)
    clear hW
    obtain ⟨x0, x1, x2, x3⟩ := four HI.out
    go_region_with (first | (go_at_call 9; refine (moves_any 3 2 _ (.inr ⟨rfl, rfl⟩)).mono ?_; rintro e w2 ⟨b, n, rfl, hb, hn, hM, hbel⟩; have HM := Lib.hid hM; have HI2 := Lib.hid ((HI.out.drew).below hbel HI.out.lt); have HB2 := Lib.hid ((below_drewN HB.out 1).trans (hbel.mono HB.out.size)); clear hb hn hM hbel; obtain ⟨y0, y1, y2, y3⟩ := four HI2.out) | (go_at_call 10; refine (of_any _ _ _ _ HF.out).mono ?_; rintro e w3 ⟨rfl, hb3⟩; have hlook := (HM.out.below hb3 HM.out.lt).look _ OK.out; have HI3 := Lib.hid (HI2.out.below hb3 HI2.out.lt); have HB3 := Lib.hid (HB2.out.trans (hb3.mono HB2.out.size)); clear hb3))
    all_goals
      have hres := HR.out
      clear HR y0 y1 y2 y3
      generalize movesF 3 2 (s, t, endB t fl) = r at hlook hres
      obtain ⟨z0, z1, z2, z3⟩ := four HI3.out
      cases r with
      | none =>
        have HR := Lib.hid hres
        clear hres
        go_wp2_with fail
        refine (broken_any s t fl _).mono ?_
        rintro e w4 ⟨rfl, hb4⟩
        have HB4 := Lib.hid (HB3.out.trans (hb4.mono HB3.out.size))
        clear hb4
        go_wp2_with fail
        go_ret2
        exact ⟨by rw [HR.out]; rfl, HB4.out⟩
      | some v =>
        have HR := Lib.hid hres
        clear hres
        go_wp2_with fail
        go_ret2
        exact ⟨by rw [HR.out]; rfl, HB3.out⟩
end Go.Proofs.Ytgmfbgclgjchpaa
