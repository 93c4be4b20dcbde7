/- The walk of the statement on ends. Conditions: the kind is a byte. -/
import Derived.Test.YtgmfbgclgjchpaaF
namespace Go.Proofs.Ytgmfbgclgjchpaa
open Go.RowKit Go.Maps Go.WideMaps

set_option maxHeartbeats 2000000 in
theorem ends_a (t : Int) (fi : Bool) (w : World) (ht : 0 ≤ t ∧ t ≤ 255) : Calls Try.prog 4 #[.int .u8 t, .bool false, .bool fi] w fun e w' => e = .returned (.bool true) ∧ Below w.heap.size w w' := by
  have e1 : Int.tmod t 10 = t % 10 := Int.tmod_eq_emod_of_nonneg ht.1
  have hk : t % 10 = 0 ∨ t % 10 = 1 ∨ t % 10 = 2 ∨ t % 10 = 3 ∨ t % 10 = 4 ∨ t % 10 = 5 ∨ t % 10 = 6 ∨ t % 10 = 7 ∨ t % 10 = 8 ∨ t % 10 = 9 := by omega
  have HK := Lib.hid hk
  have E1 := Lib.hid e1
  clear hk e1 ht
  go_enter Try.func4, Try.ntmps4
  go_wp2_with fail
  refine (known_any _).mono ?_
  rintro e w0 ⟨rfl, hb⟩
  have HB0 := Lib.hid hb
  clear hb
  go_wp2_with fail
  refine (send_at 0 1 1 2 0 _ (by omega) (by omega) (.inr rfl) (by decide)).mono ?_
  rintro e w1 ⟨rfl, hb⟩
  have HB1 := Lib.hid (HB0.out.trans (hb.mono HB0.out.size))
  clear hb
  go_wp2_with fail
  refine (recv_at 2 1 1 4 0 _ (by omega) (by omega) (.inr rfl) (by decide)).mono ?_
  rintro e w2 ⟨rfl, hb⟩
  have HB2 := Lib.hid (HB1.out.trans (hb.mono HB1.out.size))
  clear hb
  rcases HK.out with hk | hk | hk | hk | hk | hk | hk | hk | hk | hk
  · have e1 : Int.tmod t 10 = 0 := E1.out.trans hk
    clear hk
    go_wp2_with fail
    refine (send_at 4 0 0 4 32 _ (by omega) (by omega) (.inl rfl) (by decide)).mono ?_
    rintro e wa ⟨rfl, hb⟩
    have HI := Lib.hid ((IsBlk.new w2 [.int .u8 0, .int .u8 0, .int .u32 0, .slice none 0 0] 26).below hb (by simp))
    have HBA := Lib.hid ((HB2.out.alloc HB2.out.size (.cells #[.int .u8 0, .int .u8 0, .int .u32 0, .slice none 0 0] 26)).trans (hb.mono (by have := HB2.out.size; simp; omega)))
    clear hb
    obtain ⟨x0, x1, x2, x3⟩ := four HI.out
    go_wp2_with fail
    refine (recv_at 4 0 0 4 5 _ (by omega) (by omega) (.inl rfl) (by decide)).mono ?_
    rintro e wb ⟨rfl, hb⟩
    have HI2 := Lib.hid (HI.out.below hb HI.out.lt)
    have HBB := Lib.hid (HBA.out.trans (hb.mono HBA.out.size))
    clear hb x0 x1 x2 x3
    obtain ⟨x0, x1, x2, x3⟩ := four HI2.out
    go_wp2_with fail
    go_ret
    exact ⟨rfl, HBB.out⟩
  · have e1 : Int.tmod t 10 = 1 := E1.out.trans hk
    clear hk
    go_wp2_with fail
    refine (send_at 4 1 0 4 32 _ (by omega) (by omega) (.inl rfl) (by decide)).mono ?_
    rintro e wa ⟨rfl, hb⟩
    have HI := Lib.hid ((IsBlk.new w2 [.int .u8 1, .int .u8 0, .int .u32 0, .slice none 0 0] 26).below hb (by simp))
    have HBA := Lib.hid ((HB2.out.alloc HB2.out.size (.cells #[.int .u8 1, .int .u8 0, .int .u32 0, .slice none 0 0] 26)).trans (hb.mono (by have := HB2.out.size; simp; omega)))
    clear hb
    obtain ⟨x0, x1, x2, x3⟩ := four HI.out
    go_wp2_with fail
    refine (recv_at 4 1 0 4 5 _ (by omega) (by omega) (.inl rfl) (by decide)).mono ?_
    rintro e wb ⟨rfl, hb⟩
    have HI2 := Lib.hid (HI.out.below hb HI.out.lt)
    have HBB := Lib.hid (HBA.out.trans (hb.mono HBA.out.size))
    clear hb x0 x1 x2 x3
    obtain ⟨x0, x1, x2, x3⟩ := four HI2.out
    go_wp2_with fail
    go_ret
    exact ⟨rfl, HBB.out⟩
  · have e1 : Int.tmod t 10 = 2 := E1.out.trans hk
    clear hk
    go_wp2_with fail
    refine (send_at 4 2 0 4 0 _ (by omega) (by omega) (.inl rfl) (by decide)).mono ?_
    rintro e wa ⟨rfl, hb⟩
    have HI := Lib.hid ((IsBlk.new w2 [.int .u8 2, .int .u8 0, .int .u32 0, .slice none 0 0] 26).below hb (by simp))
    have HBA := Lib.hid ((HB2.out.alloc HB2.out.size (.cells #[.int .u8 2, .int .u8 0, .int .u32 0, .slice none 0 0] 26)).trans (hb.mono (by have := HB2.out.size; simp; omega)))
    clear hb
    obtain ⟨x0, x1, x2, x3⟩ := four HI.out
    go_wp2_with fail
    refine (recv_at 4 2 0 4 0 _ (by omega) (by omega) (.inl rfl) (by decide)).mono ?_
    rintro e wb ⟨rfl, hb⟩
    have HI2 := Lib.hid (HI.out.below hb HI.out.lt)
    have HBB := Lib.hid (HBA.out.trans (hb.mono HBA.out.size))
    clear hb x0 x1 x2 x3
    obtain ⟨x0, x1, x2, x3⟩ := four HI2.out
    go_wp2_with fail
    go_ret
    exact ⟨rfl, HBB.out⟩
  · have e1 : Int.tmod t 10 = 3 := E1.out.trans hk
    clear hk
    go_wp2_with fail
    refine (send_at 4 3 0 4 0 _ (by omega) (by omega) (.inl rfl) (by decide)).mono ?_
    rintro e wa ⟨rfl, hb⟩
    have HI := Lib.hid ((IsBlk.new w2 [.int .u8 3, .int .u8 0, .int .u32 0, .slice none 0 0] 26).below hb (by simp))
    have HBA := Lib.hid ((HB2.out.alloc HB2.out.size (.cells #[.int .u8 3, .int .u8 0, .int .u32 0, .slice none 0 0] 26)).trans (hb.mono (by have := HB2.out.size; simp; omega)))
    clear hb
    obtain ⟨x0, x1, x2, x3⟩ := four HI.out
    go_wp2_with fail
    refine (recv_at 4 3 0 4 0 _ (by omega) (by omega) (.inl rfl) (by decide)).mono ?_
    rintro e wb ⟨rfl, hb⟩
    have HI2 := Lib.hid (HI.out.below hb HI.out.lt)
    have HBB := Lib.hid (HBA.out.trans (hb.mono HBA.out.size))
    clear hb x0 x1 x2 x3
    obtain ⟨x0, x1, x2, x3⟩ := four HI2.out
    go_wp2_with fail
    go_ret
    exact ⟨rfl, HBB.out⟩
  · have e1 : Int.tmod t 10 = 4 := E1.out.trans hk
    clear hk
    go_wp2_with fail
    refine (send_at 4 4 0 4 32 _ (by omega) (by omega) (.inl rfl) (by decide)).mono ?_
    rintro e wa ⟨rfl, hb⟩
    have HI := Lib.hid ((IsBlk.new w2 [.int .u8 4, .int .u8 0, .int .u32 0, .slice none 0 0] 26).below hb (by simp))
    have HBA := Lib.hid ((HB2.out.alloc HB2.out.size (.cells #[.int .u8 4, .int .u8 0, .int .u32 0, .slice none 0 0] 26)).trans (hb.mono (by have := HB2.out.size; simp; omega)))
    clear hb
    obtain ⟨x0, x1, x2, x3⟩ := four HI.out
    go_wp2_with fail
    refine (recv_at 4 4 0 4 9 _ (by omega) (by omega) (.inl rfl) (by decide)).mono ?_
    rintro e wb ⟨rfl, hb⟩
    have HI2 := Lib.hid (HI.out.below hb HI.out.lt)
    have HBB := Lib.hid (HBA.out.trans (hb.mono HBA.out.size))
    clear hb x0 x1 x2 x3
    obtain ⟨x0, x1, x2, x3⟩ := four HI2.out
    go_wp2_with fail
    go_ret
    exact ⟨rfl, HBB.out⟩
  · have e1 : Int.tmod t 10 = 5 := E1.out.trans hk
    clear hk
    go_wp2_with fail
    refine (send_at 4 5 0 4 32 _ (by omega) (by omega) (.inl rfl) (by decide)).mono ?_
    rintro e wa ⟨rfl, hb⟩
    have HI := Lib.hid ((IsBlk.new w2 [.int .u8 5, .int .u8 0, .int .u32 0, .slice none 0 0] 26).below hb (by simp))
    have HBA := Lib.hid ((HB2.out.alloc HB2.out.size (.cells #[.int .u8 5, .int .u8 0, .int .u32 0, .slice none 0 0] 26)).trans (hb.mono (by have := HB2.out.size; simp; omega)))
    clear hb
    obtain ⟨x0, x1, x2, x3⟩ := four HI.out
    go_wp2_with fail
    refine (recv_at 4 5 0 4 9 _ (by omega) (by omega) (.inl rfl) (by decide)).mono ?_
    rintro e wb ⟨rfl, hb⟩
    have HI2 := Lib.hid (HI.out.below hb HI.out.lt)
    have HBB := Lib.hid (HBA.out.trans (hb.mono HBA.out.size))
    clear hb x0 x1 x2 x3
    obtain ⟨x0, x1, x2, x3⟩ := four HI2.out
    go_wp2_with fail
    go_ret
    exact ⟨rfl, HBB.out⟩
  · have e1 : Int.tmod t 10 = 6 := E1.out.trans hk
    clear hk
    go_wp2_with fail
    refine (send_at 4 6 0 4 32 _ (by omega) (by omega) (.inl rfl) (by decide)).mono ?_
    rintro e wa ⟨rfl, hb⟩
    have HI := Lib.hid ((IsBlk.new w2 [.int .u8 6, .int .u8 0, .int .u32 0, .slice none 0 0] 26).below hb (by simp))
    have HBA := Lib.hid ((HB2.out.alloc HB2.out.size (.cells #[.int .u8 6, .int .u8 0, .int .u32 0, .slice none 0 0] 26)).trans (hb.mono (by have := HB2.out.size; simp; omega)))
    clear hb
    obtain ⟨x0, x1, x2, x3⟩ := four HI.out
    go_wp2_with fail
    refine (recv_at 4 6 0 4 9 _ (by omega) (by omega) (.inl rfl) (by decide)).mono ?_
    rintro e wb ⟨rfl, hb⟩
    have HI2 := Lib.hid (HI.out.below hb HI.out.lt)
    have HBB := Lib.hid (HBA.out.trans (hb.mono HBA.out.size))
    clear hb x0 x1 x2 x3
    obtain ⟨x0, x1, x2, x3⟩ := four HI2.out
    go_wp2_with fail
    go_ret
    exact ⟨rfl, HBB.out⟩
  · have e1 : Int.tmod t 10 = 7 := E1.out.trans hk
    clear hk
    go_wp2_with fail
    refine (send_at 4 7 0 4 32 _ (by omega) (by omega) (.inl rfl) (by decide)).mono ?_
    rintro e wa ⟨rfl, hb⟩
    have HI := Lib.hid ((IsBlk.new w2 [.int .u8 7, .int .u8 0, .int .u32 0, .slice none 0 0] 26).below hb (by simp))
    have HBA := Lib.hid ((HB2.out.alloc HB2.out.size (.cells #[.int .u8 7, .int .u8 0, .int .u32 0, .slice none 0 0] 26)).trans (hb.mono (by have := HB2.out.size; simp; omega)))
    clear hb
    obtain ⟨x0, x1, x2, x3⟩ := four HI.out
    go_wp2_with fail
    refine (recv_at 4 7 0 4 9 _ (by omega) (by omega) (.inl rfl) (by decide)).mono ?_
    rintro e wb ⟨rfl, hb⟩
    have HI2 := Lib.hid (HI.out.below hb HI.out.lt)
    have HBB := Lib.hid (HBA.out.trans (hb.mono HBA.out.size))
    clear hb x0 x1 x2 x3
    obtain ⟨x0, x1, x2, x3⟩ := four HI2.out
    go_wp2_with fail
    go_ret
    exact ⟨rfl, HBB.out⟩
  · have e1 : Int.tmod t 10 = 8 := E1.out.trans hk
    clear hk
    go_wp2_with fail
    refine (send_at 4 8 0 4 32 _ (by omega) (by omega) (.inl rfl) (by decide)).mono ?_
    rintro e wa ⟨rfl, hb⟩
    have HI := Lib.hid ((IsBlk.new w2 [.int .u8 8, .int .u8 0, .int .u32 0, .slice none 0 0] 26).below hb (by simp))
    have HBA := Lib.hid ((HB2.out.alloc HB2.out.size (.cells #[.int .u8 8, .int .u8 0, .int .u32 0, .slice none 0 0] 26)).trans (hb.mono (by have := HB2.out.size; simp; omega)))
    clear hb
    obtain ⟨x0, x1, x2, x3⟩ := four HI.out
    go_wp2_with fail
    refine (recv_at 4 8 0 4 0 _ (by omega) (by omega) (.inl rfl) (by decide)).mono ?_
    rintro e wb ⟨rfl, hb⟩
    have HI2 := Lib.hid (HI.out.below hb HI.out.lt)
    have HBB := Lib.hid (HBA.out.trans (hb.mono HBA.out.size))
    clear hb x0 x1 x2 x3
    obtain ⟨x0, x1, x2, x3⟩ := four HI2.out
    go_wp2_with fail
    go_ret
    exact ⟨rfl, HBB.out⟩
  · have e1 : Int.tmod t 10 = 9 := E1.out.trans hk
    clear hk
    go_wp2_with fail
    refine (send_at 4 9 0 4 32 _ (by omega) (by omega) (.inl rfl) (by decide)).mono ?_
    rintro e wa ⟨rfl, hb⟩
    have HI := Lib.hid ((IsBlk.new w2 [.int .u8 9, .int .u8 0, .int .u32 0, .slice none 0 0] 26).below hb (by simp))
    have HBA := Lib.hid ((HB2.out.alloc HB2.out.size (.cells #[.int .u8 9, .int .u8 0, .int .u32 0, .slice none 0 0] 26)).trans (hb.mono (by have := HB2.out.size; simp; omega)))
    clear hb
    obtain ⟨x0, x1, x2, x3⟩ := four HI.out
    go_wp2_with fail
    refine (recv_at 4 9 0 4 5 _ (by omega) (by omega) (.inl rfl) (by decide)).mono ?_
    rintro e wb ⟨rfl, hb⟩
    have HI2 := Lib.hid (HI.out.below hb HI.out.lt)
    have HBB := Lib.hid (HBA.out.trans (hb.mono HBA.out.size))
    clear hb x0 x1 x2 x3
    obtain ⟨x0, x1, x2, x3⟩ := four HI2.out
    go_wp2_with fail
    go_ret
    exact ⟨rfl, HBB.out⟩

set_option maxHeartbeats 2000000 in
theorem ends_b (t : Int) (w : World) (ht : 0 ≤ t ∧ t ≤ 255) : Calls Try.prog 4 #[.int .u8 t, .bool true, .bool true] w fun e w' => e = .returned (.bool true) ∧ Below w.heap.size w w' := by
  have e1 : Int.tmod t 10 = t % 10 := Int.tmod_eq_emod_of_nonneg ht.1
  have hk : t % 10 = 0 ∨ t % 10 = 1 ∨ t % 10 = 2 ∨ t % 10 = 3 ∨ t % 10 = 4 ∨ t % 10 = 5 ∨ t % 10 = 6 ∨ t % 10 = 7 ∨ t % 10 = 8 ∨ t % 10 = 9 := by omega
  have HK := Lib.hid hk
  have E1 := Lib.hid e1
  clear hk e1 ht
  go_enter Try.func4, Try.ntmps4
  go_wp2_with fail
  refine (known_any _).mono ?_
  rintro e w0 ⟨rfl, hb⟩
  have HB0 := Lib.hid hb
  clear hb
  go_wp2_with fail
  refine (send_at 0 1 1 2 0 _ (by omega) (by omega) (.inr rfl) (by decide)).mono ?_
  rintro e w1 ⟨rfl, hb⟩
  have HB1 := Lib.hid (HB0.out.trans (hb.mono HB0.out.size))
  clear hb
  go_wp2_with fail
  refine (recv_at 2 1 1 4 0 _ (by omega) (by omega) (.inr rfl) (by decide)).mono ?_
  rintro e w2 ⟨rfl, hb⟩
  have HB2 := Lib.hid (HB1.out.trans (hb.mono HB1.out.size))
  clear hb
  go_wp2_with fail
  refine (send_at 0 1 0 1 0 _ (by omega) (by omega) (.inl rfl) (by decide)).mono ?_
  rintro e w3 ⟨rfl, hb⟩
  have HB3 := Lib.hid (HB2.out.trans (hb.mono HB2.out.size))
  clear hb
  go_wp2_with fail
  refine (send_at 1 3 0 4 0 _ (by omega) (by omega) (.inl rfl) (by decide)).mono ?_
  rintro e w4 ⟨rfl, hb⟩
  have HB4 := Lib.hid (HB3.out.trans (hb.mono HB3.out.size))
  clear hb
  rcases HK.out with hk | hk | hk | hk | hk | hk | hk | hk | hk | hk
  · have e1 : Int.tmod t 10 = 0 := E1.out.trans hk
    clear hk
    go_wp2_with fail
    refine (send_at 4 0 0 4 32 _ (by omega) (by omega) (.inl rfl) (by decide)).mono ?_
    rintro e wa ⟨rfl, hb⟩
    have HI := Lib.hid ((IsBlk.new w4 [.int .u8 0, .int .u8 0, .int .u32 0, .slice none 0 0] 26).below hb (by simp))
    have HBA := Lib.hid ((HB4.out.alloc HB4.out.size (.cells #[.int .u8 0, .int .u8 0, .int .u32 0, .slice none 0 0] 26)).trans (hb.mono (by have := HB4.out.size; simp; omega)))
    clear hb
    obtain ⟨x0, x1, x2, x3⟩ := four HI.out
    go_wp2_with fail
    refine (recv_at 4 0 0 4 5 _ (by omega) (by omega) (.inl rfl) (by decide)).mono ?_
    rintro e wb ⟨rfl, hb⟩
    have HI2 := Lib.hid (HI.out.below hb HI.out.lt)
    have HBB := Lib.hid (HBA.out.trans (hb.mono HBA.out.size))
    clear hb x0 x1 x2 x3
    obtain ⟨x0, x1, x2, x3⟩ := four HI2.out
    go_wp2_with fail
    go_ret
    exact ⟨rfl, HBB.out⟩
  · have e1 : Int.tmod t 10 = 1 := E1.out.trans hk
    clear hk
    go_wp2_with fail
    refine (send_at 4 1 0 4 32 _ (by omega) (by omega) (.inl rfl) (by decide)).mono ?_
    rintro e wa ⟨rfl, hb⟩
    have HI := Lib.hid ((IsBlk.new w4 [.int .u8 1, .int .u8 0, .int .u32 0, .slice none 0 0] 26).below hb (by simp))
    have HBA := Lib.hid ((HB4.out.alloc HB4.out.size (.cells #[.int .u8 1, .int .u8 0, .int .u32 0, .slice none 0 0] 26)).trans (hb.mono (by have := HB4.out.size; simp; omega)))
    clear hb
    obtain ⟨x0, x1, x2, x3⟩ := four HI.out
    go_wp2_with fail
    refine (recv_at 4 1 0 4 5 _ (by omega) (by omega) (.inl rfl) (by decide)).mono ?_
    rintro e wb ⟨rfl, hb⟩
    have HI2 := Lib.hid (HI.out.below hb HI.out.lt)
    have HBB := Lib.hid (HBA.out.trans (hb.mono HBA.out.size))
    clear hb x0 x1 x2 x3
    obtain ⟨x0, x1, x2, x3⟩ := four HI2.out
    go_wp2_with fail
    go_ret
    exact ⟨rfl, HBB.out⟩
  · have e1 : Int.tmod t 10 = 2 := E1.out.trans hk
    clear hk
    go_wp2_with fail
    refine (send_at 4 2 0 4 0 _ (by omega) (by omega) (.inl rfl) (by decide)).mono ?_
    rintro e wa ⟨rfl, hb⟩
    have HI := Lib.hid ((IsBlk.new w4 [.int .u8 2, .int .u8 0, .int .u32 0, .slice none 0 0] 26).below hb (by simp))
    have HBA := Lib.hid ((HB4.out.alloc HB4.out.size (.cells #[.int .u8 2, .int .u8 0, .int .u32 0, .slice none 0 0] 26)).trans (hb.mono (by have := HB4.out.size; simp; omega)))
    clear hb
    obtain ⟨x0, x1, x2, x3⟩ := four HI.out
    go_wp2_with fail
    refine (recv_at 4 2 0 4 0 _ (by omega) (by omega) (.inl rfl) (by decide)).mono ?_
    rintro e wb ⟨rfl, hb⟩
    have HI2 := Lib.hid (HI.out.below hb HI.out.lt)
    have HBB := Lib.hid (HBA.out.trans (hb.mono HBA.out.size))
    clear hb x0 x1 x2 x3
    obtain ⟨x0, x1, x2, x3⟩ := four HI2.out
    go_wp2_with fail
    go_ret
    exact ⟨rfl, HBB.out⟩
  · have e1 : Int.tmod t 10 = 3 := E1.out.trans hk
    clear hk
    go_wp2_with fail
    refine (send_at 4 3 0 4 0 _ (by omega) (by omega) (.inl rfl) (by decide)).mono ?_
    rintro e wa ⟨rfl, hb⟩
    have HI := Lib.hid ((IsBlk.new w4 [.int .u8 3, .int .u8 0, .int .u32 0, .slice none 0 0] 26).below hb (by simp))
    have HBA := Lib.hid ((HB4.out.alloc HB4.out.size (.cells #[.int .u8 3, .int .u8 0, .int .u32 0, .slice none 0 0] 26)).trans (hb.mono (by have := HB4.out.size; simp; omega)))
    clear hb
    obtain ⟨x0, x1, x2, x3⟩ := four HI.out
    go_wp2_with fail
    refine (recv_at 4 3 0 4 0 _ (by omega) (by omega) (.inl rfl) (by decide)).mono ?_
    rintro e wb ⟨rfl, hb⟩
    have HI2 := Lib.hid (HI.out.below hb HI.out.lt)
    have HBB := Lib.hid (HBA.out.trans (hb.mono HBA.out.size))
    clear hb x0 x1 x2 x3
    obtain ⟨x0, x1, x2, x3⟩ := four HI2.out
    go_wp2_with fail
    go_ret
    exact ⟨rfl, HBB.out⟩
  · have e1 : Int.tmod t 10 = 4 := E1.out.trans hk
    clear hk
    go_wp2_with fail
    refine (send_at 4 4 0 4 32 _ (by omega) (by omega) (.inl rfl) (by decide)).mono ?_
    rintro e wa ⟨rfl, hb⟩
    have HI := Lib.hid ((IsBlk.new w4 [.int .u8 4, .int .u8 0, .int .u32 0, .slice none 0 0] 26).below hb (by simp))
    have HBA := Lib.hid ((HB4.out.alloc HB4.out.size (.cells #[.int .u8 4, .int .u8 0, .int .u32 0, .slice none 0 0] 26)).trans (hb.mono (by have := HB4.out.size; simp; omega)))
    clear hb
    obtain ⟨x0, x1, x2, x3⟩ := four HI.out
    go_wp2_with fail
    refine (recv_at 4 4 0 4 9 _ (by omega) (by omega) (.inl rfl) (by decide)).mono ?_
    rintro e wb ⟨rfl, hb⟩
    have HI2 := Lib.hid (HI.out.below hb HI.out.lt)
    have HBB := Lib.hid (HBA.out.trans (hb.mono HBA.out.size))
    clear hb x0 x1 x2 x3
    obtain ⟨x0, x1, x2, x3⟩ := four HI2.out
    go_wp2_with fail
    go_ret
    exact ⟨rfl, HBB.out⟩
  · have e1 : Int.tmod t 10 = 5 := E1.out.trans hk
    clear hk
    go_wp2_with fail
    refine (send_at 4 5 0 4 32 _ (by omega) (by omega) (.inl rfl) (by decide)).mono ?_
    rintro e wa ⟨rfl, hb⟩
    have HI := Lib.hid ((IsBlk.new w4 [.int .u8 5, .int .u8 0, .int .u32 0, .slice none 0 0] 26).below hb (by simp))
    have HBA := Lib.hid ((HB4.out.alloc HB4.out.size (.cells #[.int .u8 5, .int .u8 0, .int .u32 0, .slice none 0 0] 26)).trans (hb.mono (by have := HB4.out.size; simp; omega)))
    clear hb
    obtain ⟨x0, x1, x2, x3⟩ := four HI.out
    go_wp2_with fail
    refine (recv_at 4 5 0 4 9 _ (by omega) (by omega) (.inl rfl) (by decide)).mono ?_
    rintro e wb ⟨rfl, hb⟩
    have HI2 := Lib.hid (HI.out.below hb HI.out.lt)
    have HBB := Lib.hid (HBA.out.trans (hb.mono HBA.out.size))
    clear hb x0 x1 x2 x3
    obtain ⟨x0, x1, x2, x3⟩ := four HI2.out
    go_wp2_with fail
    go_ret
    exact ⟨rfl, HBB.out⟩
  · have e1 : Int.tmod t 10 = 6 := E1.out.trans hk
    clear hk
    go_wp2_with fail
    refine (send_at 4 6 0 4 32 _ (by omega) (by omega) (.inl rfl) (by decide)).mono ?_
    rintro e wa ⟨rfl, hb⟩
    have HI := Lib.hid ((IsBlk.new w4 [.int .u8 6, .int .u8 0, .int .u32 0, .slice none 0 0] 26).below hb (by simp))
    have HBA := Lib.hid ((HB4.out.alloc HB4.out.size (.cells #[.int .u8 6, .int .u8 0, .int .u32 0, .slice none 0 0] 26)).trans (hb.mono (by have := HB4.out.size; simp; omega)))
    clear hb
    obtain ⟨x0, x1, x2, x3⟩ := four HI.out
    go_wp2_with fail
    refine (recv_at 4 6 0 4 9 _ (by omega) (by omega) (.inl rfl) (by decide)).mono ?_
    rintro e wb ⟨rfl, hb⟩
    have HI2 := Lib.hid (HI.out.below hb HI.out.lt)
    have HBB := Lib.hid (HBA.out.trans (hb.mono HBA.out.size))
    clear hb x0 x1 x2 x3
    obtain ⟨x0, x1, x2, x3⟩ := four HI2.out
    go_wp2_with fail
    go_ret
    exact ⟨rfl, HBB.out⟩
  · have e1 : Int.tmod t 10 = 7 := E1.out.trans hk
    clear hk
    go_wp2_with fail
    refine (send_at 4 7 0 4 32 _ (by omega) (by omega) (.inl rfl) (by decide)).mono ?_
    rintro e wa ⟨rfl, hb⟩
    have HI := Lib.hid ((IsBlk.new w4 [.int .u8 7, .int .u8 0, .int .u32 0, .slice none 0 0] 26).below hb (by simp))
    have HBA := Lib.hid ((HB4.out.alloc HB4.out.size (.cells #[.int .u8 7, .int .u8 0, .int .u32 0, .slice none 0 0] 26)).trans (hb.mono (by have := HB4.out.size; simp; omega)))
    clear hb
    obtain ⟨x0, x1, x2, x3⟩ := four HI.out
    go_wp2_with fail
    refine (recv_at 4 7 0 4 9 _ (by omega) (by omega) (.inl rfl) (by decide)).mono ?_
    rintro e wb ⟨rfl, hb⟩
    have HI2 := Lib.hid (HI.out.below hb HI.out.lt)
    have HBB := Lib.hid (HBA.out.trans (hb.mono HBA.out.size))
    clear hb x0 x1 x2 x3
    obtain ⟨x0, x1, x2, x3⟩ := four HI2.out
    go_wp2_with fail
    go_ret
    exact ⟨rfl, HBB.out⟩
  · have e1 : Int.tmod t 10 = 8 := E1.out.trans hk
    clear hk
    go_wp2_with fail
    refine (send_at 4 8 0 4 32 _ (by omega) (by omega) (.inl rfl) (by decide)).mono ?_
    rintro e wa ⟨rfl, hb⟩
    have HI := Lib.hid ((IsBlk.new w4 [.int .u8 8, .int .u8 0, .int .u32 0, .slice none 0 0] 26).below hb (by simp))
    have HBA := Lib.hid ((HB4.out.alloc HB4.out.size (.cells #[.int .u8 8, .int .u8 0, .int .u32 0, .slice none 0 0] 26)).trans (hb.mono (by have := HB4.out.size; simp; omega)))
    clear hb
    obtain ⟨x0, x1, x2, x3⟩ := four HI.out
    go_wp2_with fail
    refine (recv_at 4 8 0 4 0 _ (by omega) (by omega) (.inl rfl) (by decide)).mono ?_
    rintro e wb ⟨rfl, hb⟩
    have HI2 := Lib.hid (HI.out.below hb HI.out.lt)
    have HBB := Lib.hid (HBA.out.trans (hb.mono HBA.out.size))
    clear hb x0 x1 x2 x3
    obtain ⟨x0, x1, x2, x3⟩ := four HI2.out
    go_wp2_with fail
    go_ret
    exact ⟨rfl, HBB.out⟩
  · have e1 : Int.tmod t 10 = 9 := E1.out.trans hk
    clear hk
    go_wp2_with fail
    refine (send_at 4 9 0 4 32 _ (by omega) (by omega) (.inl rfl) (by decide)).mono ?_
    rintro e wa ⟨rfl, hb⟩
    have HI := Lib.hid ((IsBlk.new w4 [.int .u8 9, .int .u8 0, .int .u32 0, .slice none 0 0] 26).below hb (by simp))
    have HBA := Lib.hid ((HB4.out.alloc HB4.out.size (.cells #[.int .u8 9, .int .u8 0, .int .u32 0, .slice none 0 0] 26)).trans (hb.mono (by have := HB4.out.size; simp; omega)))
    clear hb
    obtain ⟨x0, x1, x2, x3⟩ := four HI.out
    go_wp2_with fail
    refine (recv_at 4 9 0 4 5 _ (by omega) (by omega) (.inl rfl) (by decide)).mono ?_
    rintro e wb ⟨rfl, hb⟩
    have HI2 := Lib.hid (HI.out.below hb HI.out.lt)
    have HBB := Lib.hid (HBA.out.trans (hb.mono HBA.out.size))
    clear hb x0 x1 x2 x3
    obtain ⟨x0, x1, x2, x3⟩ := four HI2.out
    go_wp2_with fail
    go_ret
    exact ⟨rfl, HBB.out⟩

set_option maxHeartbeats 2000000 in
theorem ends_c (t : Int) (w : World) (ht : 0 ≤ t ∧ t ≤ 255) : Calls Try.prog 4 #[.int .u8 t, .bool true, .bool false] w fun e w' => e = .returned (.bool true) ∧ Below w.heap.size w w' := by
  have e1 : Int.tmod t 10 = t % 10 := Int.tmod_eq_emod_of_nonneg ht.1
  have hk : t % 10 = 0 ∨ t % 10 = 1 ∨ t % 10 = 2 ∨ t % 10 = 3 ∨ t % 10 = 4 ∨ t % 10 = 5 ∨ t % 10 = 6 ∨ t % 10 = 7 ∨ t % 10 = 8 ∨ t % 10 = 9 := by omega
  have HK := Lib.hid hk
  have E1 := Lib.hid e1
  clear hk e1 ht
  go_enter Try.func4, Try.ntmps4
  go_wp2_with fail
  refine (known_any _).mono ?_
  rintro e w0 ⟨rfl, hb⟩
  have HB0 := Lib.hid hb
  clear hb
  go_wp2_with fail
  refine (send_at 0 1 1 2 0 _ (by omega) (by omega) (.inr rfl) (by decide)).mono ?_
  rintro e w1 ⟨rfl, hb⟩
  have HB1 := Lib.hid (HB0.out.trans (hb.mono HB0.out.size))
  clear hb
  go_wp2_with fail
  refine (recv_at 2 1 1 4 0 _ (by omega) (by omega) (.inr rfl) (by decide)).mono ?_
  rintro e w2 ⟨rfl, hb⟩
  have HB2 := Lib.hid (HB1.out.trans (hb.mono HB1.out.size))
  clear hb
  go_wp2_with fail
  refine (send_at 0 1 0 1 0 _ (by omega) (by omega) (.inl rfl) (by decide)).mono ?_
  rintro e w3 ⟨rfl, hb⟩
  have HB3 := Lib.hid (HB2.out.trans (hb.mono HB2.out.size))
  clear hb
  go_wp2_with fail
  refine (recv_at 1 3 0 4 0 _ (by omega) (by omega) (.inl rfl) (by decide)).mono ?_
  rintro e w4 ⟨rfl, hb⟩
  have HB4 := Lib.hid (HB3.out.trans (hb.mono HB3.out.size))
  clear hb
  rcases HK.out with hk | hk | hk | hk | hk | hk | hk | hk | hk | hk
  · have e1 : Int.tmod t 10 = 0 := E1.out.trans hk
    clear hk
    go_wp2_with fail
    refine (send_at 4 0 0 4 32 _ (by omega) (by omega) (.inl rfl) (by decide)).mono ?_
    rintro e wa ⟨rfl, hb⟩
    have HI := Lib.hid ((IsBlk.new w4 [.int .u8 0, .int .u8 0, .int .u32 0, .slice none 0 0] 26).below hb (by simp))
    have HBA := Lib.hid ((HB4.out.alloc HB4.out.size (.cells #[.int .u8 0, .int .u8 0, .int .u32 0, .slice none 0 0] 26)).trans (hb.mono (by have := HB4.out.size; simp; omega)))
    clear hb
    obtain ⟨x0, x1, x2, x3⟩ := four HI.out
    go_wp2_with fail
    refine (recv_at 4 0 0 4 5 _ (by omega) (by omega) (.inl rfl) (by decide)).mono ?_
    rintro e wb ⟨rfl, hb⟩
    have HI2 := Lib.hid (HI.out.below hb HI.out.lt)
    have HBB := Lib.hid (HBA.out.trans (hb.mono HBA.out.size))
    clear hb x0 x1 x2 x3
    obtain ⟨x0, x1, x2, x3⟩ := four HI2.out
    go_wp2_with fail
    go_ret
    exact ⟨rfl, HBB.out⟩
  · have e1 : Int.tmod t 10 = 1 := E1.out.trans hk
    clear hk
    go_wp2_with fail
    refine (send_at 4 1 0 4 32 _ (by omega) (by omega) (.inl rfl) (by decide)).mono ?_
    rintro e wa ⟨rfl, hb⟩
    have HI := Lib.hid ((IsBlk.new w4 [.int .u8 1, .int .u8 0, .int .u32 0, .slice none 0 0] 26).below hb (by simp))
    have HBA := Lib.hid ((HB4.out.alloc HB4.out.size (.cells #[.int .u8 1, .int .u8 0, .int .u32 0, .slice none 0 0] 26)).trans (hb.mono (by have := HB4.out.size; simp; omega)))
    clear hb
    obtain ⟨x0, x1, x2, x3⟩ := four HI.out
    go_wp2_with fail
    refine (recv_at 4 1 0 4 5 _ (by omega) (by omega) (.inl rfl) (by decide)).mono ?_
    rintro e wb ⟨rfl, hb⟩
    have HI2 := Lib.hid (HI.out.below hb HI.out.lt)
    have HBB := Lib.hid (HBA.out.trans (hb.mono HBA.out.size))
    clear hb x0 x1 x2 x3
    obtain ⟨x0, x1, x2, x3⟩ := four HI2.out
    go_wp2_with fail
    go_ret
    exact ⟨rfl, HBB.out⟩
  · have e1 : Int.tmod t 10 = 2 := E1.out.trans hk
    clear hk
    go_wp2_with fail
    refine (send_at 4 2 0 4 0 _ (by omega) (by omega) (.inl rfl) (by decide)).mono ?_
    rintro e wa ⟨rfl, hb⟩
    have HI := Lib.hid ((IsBlk.new w4 [.int .u8 2, .int .u8 0, .int .u32 0, .slice none 0 0] 26).below hb (by simp))
    have HBA := Lib.hid ((HB4.out.alloc HB4.out.size (.cells #[.int .u8 2, .int .u8 0, .int .u32 0, .slice none 0 0] 26)).trans (hb.mono (by have := HB4.out.size; simp; omega)))
    clear hb
    obtain ⟨x0, x1, x2, x3⟩ := four HI.out
    go_wp2_with fail
    refine (recv_at 4 2 0 4 0 _ (by omega) (by omega) (.inl rfl) (by decide)).mono ?_
    rintro e wb ⟨rfl, hb⟩
    have HI2 := Lib.hid (HI.out.below hb HI.out.lt)
    have HBB := Lib.hid (HBA.out.trans (hb.mono HBA.out.size))
    clear hb x0 x1 x2 x3
    obtain ⟨x0, x1, x2, x3⟩ := four HI2.out
    go_wp2_with fail
    go_ret
    exact ⟨rfl, HBB.out⟩
  · have e1 : Int.tmod t 10 = 3 := E1.out.trans hk
    clear hk
    go_wp2_with fail
    refine (send_at 4 3 0 4 0 _ (by omega) (by omega) (.inl rfl) (by decide)).mono ?_
    rintro e wa ⟨rfl, hb⟩
    have HI := Lib.hid ((IsBlk.new w4 [.int .u8 3, .int .u8 0, .int .u32 0, .slice none 0 0] 26).below hb (by simp))
    have HBA := Lib.hid ((HB4.out.alloc HB4.out.size (.cells #[.int .u8 3, .int .u8 0, .int .u32 0, .slice none 0 0] 26)).trans (hb.mono (by have := HB4.out.size; simp; omega)))
    clear hb
    obtain ⟨x0, x1, x2, x3⟩ := four HI.out
    go_wp2_with fail
    refine (recv_at 4 3 0 4 0 _ (by omega) (by omega) (.inl rfl) (by decide)).mono ?_
    rintro e wb ⟨rfl, hb⟩
    have HI2 := Lib.hid (HI.out.below hb HI.out.lt)
    have HBB := Lib.hid (HBA.out.trans (hb.mono HBA.out.size))
    clear hb x0 x1 x2 x3
    obtain ⟨x0, x1, x2, x3⟩ := four HI2.out
    go_wp2_with fail
    go_ret
    exact ⟨rfl, HBB.out⟩
  · have e1 : Int.tmod t 10 = 4 := E1.out.trans hk
    clear hk
    go_wp2_with fail
    refine (send_at 4 4 0 4 32 _ (by omega) (by omega) (.inl rfl) (by decide)).mono ?_
    rintro e wa ⟨rfl, hb⟩
    have HI := Lib.hid ((IsBlk.new w4 [.int .u8 4, .int .u8 0, .int .u32 0, .slice none 0 0] 26).below hb (by simp))
    have HBA := Lib.hid ((HB4.out.alloc HB4.out.size (.cells #[.int .u8 4, .int .u8 0, .int .u32 0, .slice none 0 0] 26)).trans (hb.mono (by have := HB4.out.size; simp; omega)))
    clear hb
    obtain ⟨x0, x1, x2, x3⟩ := four HI.out
    go_wp2_with fail
    refine (recv_at 4 4 0 4 9 _ (by omega) (by omega) (.inl rfl) (by decide)).mono ?_
    rintro e wb ⟨rfl, hb⟩
    have HI2 := Lib.hid (HI.out.below hb HI.out.lt)
    have HBB := Lib.hid (HBA.out.trans (hb.mono HBA.out.size))
    clear hb x0 x1 x2 x3
    obtain ⟨x0, x1, x2, x3⟩ := four HI2.out
    go_wp2_with fail
    go_ret
    exact ⟨rfl, HBB.out⟩
  · have e1 : Int.tmod t 10 = 5 := E1.out.trans hk
    clear hk
    go_wp2_with fail
    refine (send_at 4 5 0 4 32 _ (by omega) (by omega) (.inl rfl) (by decide)).mono ?_
    rintro e wa ⟨rfl, hb⟩
    have HI := Lib.hid ((IsBlk.new w4 [.int .u8 5, .int .u8 0, .int .u32 0, .slice none 0 0] 26).below hb (by simp))
    have HBA := Lib.hid ((HB4.out.alloc HB4.out.size (.cells #[.int .u8 5, .int .u8 0, .int .u32 0, .slice none 0 0] 26)).trans (hb.mono (by have := HB4.out.size; simp; omega)))
    clear hb
    obtain ⟨x0, x1, x2, x3⟩ := four HI.out
    go_wp2_with fail
    refine (recv_at 4 5 0 4 9 _ (by omega) (by omega) (.inl rfl) (by decide)).mono ?_
    rintro e wb ⟨rfl, hb⟩
    have HI2 := Lib.hid (HI.out.below hb HI.out.lt)
    have HBB := Lib.hid (HBA.out.trans (hb.mono HBA.out.size))
    clear hb x0 x1 x2 x3
    obtain ⟨x0, x1, x2, x3⟩ := four HI2.out
    go_wp2_with fail
    go_ret
    exact ⟨rfl, HBB.out⟩
  · have e1 : Int.tmod t 10 = 6 := E1.out.trans hk
    clear hk
    go_wp2_with fail
    refine (send_at 4 6 0 4 32 _ (by omega) (by omega) (.inl rfl) (by decide)).mono ?_
    rintro e wa ⟨rfl, hb⟩
    have HI := Lib.hid ((IsBlk.new w4 [.int .u8 6, .int .u8 0, .int .u32 0, .slice none 0 0] 26).below hb (by simp))
    have HBA := Lib.hid ((HB4.out.alloc HB4.out.size (.cells #[.int .u8 6, .int .u8 0, .int .u32 0, .slice none 0 0] 26)).trans (hb.mono (by have := HB4.out.size; simp; omega)))
    clear hb
    obtain ⟨x0, x1, x2, x3⟩ := four HI.out
    go_wp2_with fail
    refine (recv_at 4 6 0 4 9 _ (by omega) (by omega) (.inl rfl) (by decide)).mono ?_
    rintro e wb ⟨rfl, hb⟩
    have HI2 := Lib.hid (HI.out.below hb HI.out.lt)
    have HBB := Lib.hid (HBA.out.trans (hb.mono HBA.out.size))
    clear hb x0 x1 x2 x3
    obtain ⟨x0, x1, x2, x3⟩ := four HI2.out
    go_wp2_with fail
    go_ret
    exact ⟨rfl, HBB.out⟩
  · have e1 : Int.tmod t 10 = 7 := E1.out.trans hk
    clear hk
    go_wp2_with fail
    refine (send_at 4 7 0 4 32 _ (by omega) (by omega) (.inl rfl) (by decide)).mono ?_
    rintro e wa ⟨rfl, hb⟩
    have HI := Lib.hid ((IsBlk.new w4 [.int .u8 7, .int .u8 0, .int .u32 0, .slice none 0 0] 26).below hb (by simp))
    have HBA := Lib.hid ((HB4.out.alloc HB4.out.size (.cells #[.int .u8 7, .int .u8 0, .int .u32 0, .slice none 0 0] 26)).trans (hb.mono (by have := HB4.out.size; simp; omega)))
    clear hb
    obtain ⟨x0, x1, x2, x3⟩ := four HI.out
    go_wp2_with fail
    refine (recv_at 4 7 0 4 9 _ (by omega) (by omega) (.inl rfl) (by decide)).mono ?_
    rintro e wb ⟨rfl, hb⟩
    have HI2 := Lib.hid (HI.out.below hb HI.out.lt)
    have HBB := Lib.hid (HBA.out.trans (hb.mono HBA.out.size))
    clear hb x0 x1 x2 x3
    obtain ⟨x0, x1, x2, x3⟩ := four HI2.out
    go_wp2_with fail
    go_ret
    exact ⟨rfl, HBB.out⟩
  · have e1 : Int.tmod t 10 = 8 := E1.out.trans hk
    clear hk
    go_wp2_with fail
    refine (send_at 4 8 0 4 32 _ (by omega) (by omega) (.inl rfl) (by decide)).mono ?_
    rintro e wa ⟨rfl, hb⟩
    have HI := Lib.hid ((IsBlk.new w4 [.int .u8 8, .int .u8 0, .int .u32 0, .slice none 0 0] 26).below hb (by simp))
    have HBA := Lib.hid ((HB4.out.alloc HB4.out.size (.cells #[.int .u8 8, .int .u8 0, .int .u32 0, .slice none 0 0] 26)).trans (hb.mono (by have := HB4.out.size; simp; omega)))
    clear hb
    obtain ⟨x0, x1, x2, x3⟩ := four HI.out
    go_wp2_with fail
    refine (recv_at 4 8 0 4 0 _ (by omega) (by omega) (.inl rfl) (by decide)).mono ?_
    rintro e wb ⟨rfl, hb⟩
    have HI2 := Lib.hid (HI.out.below hb HI.out.lt)
    have HBB := Lib.hid (HBA.out.trans (hb.mono HBA.out.size))
    clear hb x0 x1 x2 x3
    obtain ⟨x0, x1, x2, x3⟩ := four HI2.out
    go_wp2_with fail
    go_ret
    exact ⟨rfl, HBB.out⟩
  · have e1 : Int.tmod t 10 = 9 := E1.out.trans hk
    clear hk
    go_wp2_with fail
    refine (send_at 4 9 0 4 32 _ (by omega) (by omega) (.inl rfl) (by decide)).mono ?_
    rintro e wa ⟨rfl, hb⟩
    have HI := Lib.hid ((IsBlk.new w4 [.int .u8 9, .int .u8 0, .int .u32 0, .slice none 0 0] 26).below hb (by simp))
    have HBA := Lib.hid ((HB4.out.alloc HB4.out.size (.cells #[.int .u8 9, .int .u8 0, .int .u32 0, .slice none 0 0] 26)).trans (hb.mono (by have := HB4.out.size; simp; omega)))
    clear hb
    obtain ⟨x0, x1, x2, x3⟩ := four HI.out
    go_wp2_with fail
    refine (recv_at 4 9 0 4 5 _ (by omega) (by omega) (.inl rfl) (by decide)).mono ?_
    rintro e wb ⟨rfl, hb⟩
    have HI2 := Lib.hid (HI.out.below hb HI.out.lt)
    have HBB := Lib.hid (HBA.out.trans (hb.mono HBA.out.size))
    clear hb x0 x1 x2 x3
    obtain ⟨x0, x1, x2, x3⟩ := four HI2.out
    go_wp2_with fail
    go_ret
    exact ⟨rfl, HBB.out⟩

theorem ends_walk (t : Int) (re fi : Bool) (w : World) (ht : 0 ≤ t ∧ t ≤ 255) : Calls Try.prog 4 #[.int .u8 t, .bool re, .bool fi] w fun e w' => e = .returned (.bool true) ∧ Below w.heap.size w w' := by
  cases re with
  | false => exact ends_a t fi w ht
  | true =>
    cases fi with
    | true => exact ends_b t w ht
    | false => exact ends_c t w ht
end Go.Proofs.Ytgmfbgclgjchpaa
