/- The contract of the chapter's example. Conditions: none. -/
import Derived.Test.YtbijoeemioeejaaX
namespace Go.Proofs.Ytbijoeemioeejaa
open Go.RowKit

theorem ex_add : addL 0 [1, 3, 2, 2] ([], 0) = ([(1, 3)], 3) := by decide
theorem ex_fgt : fgt [(1, 3)] (max 0 3) = [(3, 3)] := by decide
theorem ex_again : addL 3 [1] ([(3, 3)], 0) = ([(3, 3)], 0) := by decide
theorem ex_rev : ([(1, 3)] : List Rng).reverse.take (9 : Int).toNat = [(1, 3)] := by decide

set_option maxHeartbeats 2000000 in
theorem known_any (w : World) : Calls Try.prog 7 #[] w fun e w' => e = .returned (.bool true) ∧ Touch [] w w' := by
  go_enter Try.func7, Try.ntmps7
  go_wp2_with fail
  refine (new_any _).mono ?_
  rintro e w1 ⟨rfl, hw1⟩
  obtain ⟨s, hs⟩ : ∃ s, s = w.heap.size := ⟨_, rfl⟩
  rw [← hs]
  have HS := Lib.hid hs
  have HI : Hid (IsS w1 s 50 [s] [] 0) := Lib.hid (by rw [hw1, hs]; exact IsS.new w 50)
  have HT1 : Hid (Touch [] w w1) := Lib.hid (by rw [hw1]; exact (Touch.refl _ _).alloc _)
  have HZ1 : Hid (w1.heap.size = s + 1) := Lib.hid (by rw [hw1, hs]; simp)
  clear hw1 hs
  have hr : Rd (w1.alloc (.cells #[.int .u64 1, .int .u64 3, .int .u64 2, .int .u64 2] 28)) 1 (.slice (Option.some ⟨w1.heap.size, 0, none⟩) 4 4) 4 (us [1, 3, 2, 2]) := rd_us w1 [1, 3, 2, 2]
  have HR := Lib.hid hr
  clear hr
  go_wp2_with fail
  refine (add_any _ s [s] [] 0 (Option.some ⟨w1.heap.size, 0, none⟩) 4 4 [1, 3, 2, 2] (HI.out.keep ((Touch.refl _ _).alloc _)) HR.out rfl (by
    intro g hg
    rw [(mem_own hg).1]
    have := HZ1.out
    simp
    omega) (by simp) (by simp)).mono ?_
  rw [ex_add]
  rintro e w2 ⟨rfl, F2, g1, g2, g3⟩
  have HI2 := Lib.hid g1
  have HT2 : Hid (Touch [] w w2) := Lib.hid ((HT1.out.alloc _).trans g2 (fun g hg => .inr (by simp at hg; have := HS.out; omega)))
  have HF2 : Hid (∀ g ∈ F2, w.heap.size ≤ g) := Lib.hid fun g hg => by
    rcases g3 g hg with h | h
    · simp at h; have := HS.out; omega
    · have := HT1.out.size; simp at h; omega
  clear g1 g2 g3
  go_wp2_with fail
  refine (ranges_any w2 s F2 [(1, 3)] 0 9 HI2.out (by simp)).mono ?_
  rw [ex_rev]
  rintro e w3 ⟨v, rfl, k1, k2, k3⟩
  have HV := Lib.hid k1.rd
  have HI3 := Lib.hid (HI2.out.keep k2)
  have HT3 := Lib.hid (HT2.out.trans k2 (by simp))
  have HO : Hid (∀ g ∈ own v, g ∉ F2) := Lib.hid fun g hg hm => by have := k3 g hg; have := HI2.out.lt g hm; omega
  have HO3 : Hid (∀ g ∈ own v, g < w3.heap.size) := Lib.hid k1.lt
  clear k1 k2 k3
  go_wp2_with fail
  refine (forget_any w3 s F2 [(1, 3)] 0 3 HI3.out (by simp) (by unfold mx; omega)).mono ?_
  rw [ex_fgt, show max 0 3 = 3 from rfl]
  rintro e w4 ⟨rfl, F4, g1, g2, g3⟩
  have HI4 := Lib.hid g1
  have HV4 := Lib.hid (HV.out.touch g2 HO.out)
  have HT4 := Lib.hid (HT3.out.trans g2 (fun g hg => .inr (HF2.out g hg)))
  have HF4 : Hid (∀ g ∈ F4, w.heap.size ≤ g) := Lib.hid fun g hg => by
    rcases g3 g hg with h | h
    · exact HF2.out g h
    · have := HT3.out.size; omega
  clear g1 g2 g3
  go_wp2_with fail
  refine (alike_same _ _ _ [(1, 3)] (HV4.out.touch ((Touch.refl [] _).alloc _) (by simp)) (Rd.new w4 (1, 3)) (by simp)).mono ?_
  rintro e w5 ⟨rfl, k⟩
  have HT45 : Hid (Touch [] w4 w5) := Lib.hid (((Touch.refl _ _).alloc _).trans k (by simp))
  have HI5 := Lib.hid (HI4.out.keep HT45.out)
  clear k
  go_wp2_with fail
  refine (has_any w5 s F4 [(3, 3)] 3 2 HI5.out).mono ?_
  rw [show hasB 2 [(3, 3)] = false from by decide]
  rintro e w6 ⟨rfl, k⟩
  have HT6 := Lib.hid (HT45.out.trans k (by simp))
  have HI6 := Lib.hid (HI5.out.keep k)
  clear k
  go_wp2_with fail
  refine (has_any w6 s F4 [(3, 3)] 3 3 HI6.out).mono ?_
  rw [show hasB 3 [(3, 3)] = true from by decide]
  rintro e w7 ⟨rfl, k⟩
  have HT7 := Lib.hid (HT6.out.trans k (by simp))
  have HI7 := Lib.hid (HI6.out.keep k)
  clear k
  go_wp2_with fail
  refine (count_any w7 s F4 [(3, 3)] 3 HI7.out).mono ?_
  rw [show cnt [(3, 3)] = 1 from by decide]
  rintro e w8 ⟨rfl, k⟩
  have HT8 := Lib.hid (HT7.out.trans k (by simp))
  have HI8 := Lib.hid (HI7.out.keep k)
  have hr : Rd (w8.alloc (.cells #[.int .u64 1] 28)) 1 (.slice (Option.some ⟨w8.heap.size, 0, none⟩) 1 1) 1 (us [1]) := rd_us w8 [1]
  have HR8 := Lib.hid hr
  clear k hr
  go_wp2_with fail
  refine (add_any _ s F4 [(3, 3)] 3 (Option.some ⟨w8.heap.size, 0, none⟩) 1 1 [1] (HI8.out.keep ((Touch.refl _ _).alloc _)) HR8.out rfl (by
    intro g hg hm
    rw [(mem_own hg).1] at hm
    have := HI8.out.lt _ hm
    simp at this) (by simp) (by simp)).mono ?_
  rw [ex_again]
  rintro e w9 ⟨rfl, F9, g1, g2, g3⟩
  have HT9 : Hid (Touch [] w w9) := Lib.hid (((HT4.out.trans HT8.out (by simp)).alloc _).trans g2 (fun g hg => .inr (HF4.out g hg)))
  clear g1 g2 g3
  go_wp2_with fail
  go_ret
  exact ⟨rfl, HT9.out⟩
end Go.Proofs.Ytbijoeemioeejaa
