/- The walk of the statement on spans. Conditions: none. -/
import Derived.Test.YtbijoeemioeejaaO
namespace Go.Proofs.Ytbijoeemioeejaa
open Go.RowKit

/-- The numbers from a on, j of them. -/
def upTo (a j : Nat) : List Rng := if j = 0 then [] else [(a, a + j - 1)]
theorem upTo_len (a j : Nat) : (upTo a j).length ≤ 1 := by unfold upTo; split <;> simp
theorem upTo_add (a j : Nat) (h : a + j ≤ mx) : (addL 0 [a + j] (upTo a j, 0)).1 = upTo a (j + 1) := by
  have hm : mx = 4611686018427387903 := rfl
  simp only [addL, List.foldl_cons, List.foldl_nil, add1]
  rw [if_pos]
  · simp only [spOp]
    rw [if_pos (by omega), show min (a + j) mx = a + j from by omega, show max (a + j) 0 = a + j from by omega]
    unfold upTo
    by_cases hj : j = 0
    · subst hj
      simp [sp]
    · rw [if_neg hj, if_neg (by omega)]
      simp only [sp]
      rw [if_neg (by omega), if_neg (by omega)]
      simp
  · refine ⟨by omega, by omega, ?_⟩
    unfold upTo hasB
    split
    · rfl
    · simp; omega
theorem span_one (a b : Nat) (h : a ≤ b) (hb : b ≤ mx) : spOp [] 0 a b = upTo a (b - a + 1) := by
  unfold spOp upTo
  rw [if_pos (by omega), if_neg (by omega)]
  simp only [sp]
  congr 2 <;> omega
theorem span_none (L : List Rng) (f l : Nat) (h : l < f ∨ mx < f) : spOp L 0 f l = L := if_neg (by omega)
theorem span_far (a b f : Nat) (h : a ≤ b) (hb : b < 1000) (hf : mx < f) : spOp (upTo a (b - a + 1)) 0 (mx - 1) f = [(a, b), (mx - 1, mx)] := by
  have hm : mx = 4611686018427387903 := rfl
  unfold upTo
  rw [if_neg (by omega), show a + (b - a + 1) - 1 = b from by omega]
  unfold spOp
  rw [if_pos (by omega), show min f mx = mx from by omega, show max (mx - 1) 0 = mx - 1 from by omega]
  simp only [sp]
  rw [if_pos (by omega)]
theorem far_add (L : List Rng) (f : Nat) (hf : mx < f) : addL 0 [f] (L, 0) = (L, 0) := by
  simp only [addL, List.foldl_cons, List.foldl_nil, add1]
  rw [if_neg (by omega)]
theorem far_has (a b f : Nat) (h : a ≤ b) (hb : b < f) : hasB f (upTo a (b - a + 1)) = false := by
  unfold upTo hasB
  rw [if_neg (by omega)]
  simp
  omega

set_option maxHeartbeats 4000000 in
theorem spans_walk (first n far : Nat) (h1 : first < 256) (h2 : n < 256) (h3 : far < 18446744073709551616) (w : World) :
    Calls Try.prog 6 #[.int .u8 (first : Int), .int .u8 (n : Int), .int .u64 (far : Int)] w fun e w' => e = .returned (.bool true) ∧ Touch [] w w' := by
  go_enter Try.func6, Try.ntmps6
  go_wp2_with fail
  refine (known_any _).mono ?_
  rintro e w1 ⟨rfl, hT⟩
  have HT1 := Lib.hid hT
  clear hT
  go_wp2_with fail
  refine (new_any _).mono ?_
  rintro e w2 ⟨rfl, rfl⟩
  go_wp2_with fail
  refine (new_any _).mono ?_
  rintro e w2 ⟨rfl, rfl⟩
  obtain ⟨s, hs⟩ : ∃ s, s = w1.heap.size := ⟨_, rfl⟩
  obtain ⟨W, hW⟩ : ∃ W, W = (w1.alloc (.cells #[.slice none 0 0, .int .u64 0] 50)).alloc (.cells #[.slice none 0 0, .int .u64 0] 50) := ⟨_, rfl⟩
  have HB : Hid (Two w1 W [] s 50 [] 0 (s + 1) 50 [] 0) := Lib.hid (by rw [hs, hW]; exact Two.new w1 50 50)
  rw [← hW]
  simp only [World.size_alloc]
  rw [← hs]
  obtain ⟨k, hk⟩ : ∃ k, k = n % 60 := ⟨_, rfl⟩
  have hk60 : k < 60 := by omega
  obtain ⟨b, hb⟩ : ∃ b, b = first + k := ⟨_, rfl⟩
  have hb2 : first ≤ b ∧ b < 1000 := by omega
  have HKK : Hid ((first : Int) + (n : Int) % 60 = (b : Int)) := Lib.hid (by omega)
  have hm : mx = 4611686018427387903 := rfl
  have HMX := Lib.hid hm
  clear hs hW hk hk60 hb hm
  go_wp2_with fail
  rw [HKK.out]
  refine (HB.out.span first b (by simp) (by omega) (by omega)).mono ?_
  rw [span_one first b hb2.1 (by have := HMX.out; omega)]
  rintro e w2 ⟨rfl, hB, _⟩
  have HB2 := Lib.hid hB
  clear hB
  go_wp2_with fail
  go_loopw [11] (fun i wr => ∃ j : Nat, first + j ≤ b + 1 ∧ i = .int .u64 ((first : Int) + (j : Int)) ∧ Hid (Two w1 wr [] s 50 (upTo first (b - first + 1)) 0 (s + 1) 50 (upTo first j) 0)) (fun i _ => b + 1 - (intOf i).toNat)
  case atStart => exact ⟨0, by omega, by simp, HB2⟩
  case round =>
    obtain ⟨j, hj, rfl, HJ⟩ := hrel
    by_cases hlt : first + j ≤ b
    · have hlt' : (first : Int) + (j : Int) ≤ (b : Int) := by omega
      have HR : Hid (Rd (wr.alloc (.cells #[.int .u64 ((first : Int) + (j : Int))] 28)) 1 (.slice (Option.some ⟨wr.heap.size, 0, none⟩) 1 1) 1 (us [first + j])) := Lib.hid (by
        rw [show (first : Int) + (j : Int) = ((first + j : Nat) : Int) from by omega]
        exact rd_us wr [first + j])
      have HU := Lib.hid (upTo_add first j (by have := HMX.out; omega))
      have hul := upTo_len first j
      go_wp2_with fail
      refine (((HJ.out.alloc _).symm.add [first + j] HR.out (by intro g hg; rw [(mem_own hg).1]; simp) rfl (by omega) (by simp; omega))).mono ?_
      rintro e w3 ⟨rfl, hB, _⟩
      have HB3 := Lib.hid (hB.symm.less (J := []) (by simp))
      clear hB
      go_wp2_with fail
      go_roundw
      case rel => exact ⟨j + 1, by omega, by go_num, Lib.hid (by have := HB3.out; rw [HU.out] at this; exact this)⟩
      case measure => simp [intOf]; omega
    · obtain rfl : j = b - first + 1 := by omega
      have hge : ¬ (first : Int) + ((b - first + 1 : Nat) : Int) ≤ (b : Int) := by omega
      have HBE := Lib.hid HJ.out
      have hul := upTo_len first (b - first + 1)
      have HFH : Hid (∀ x, b < x → hasB x (upTo first (b - first + 1)) = false) := Lib.hid fun x hx => far_has first b x hb2.1 hx
      have HFS : Hid (∀ x, mx < x → spOp (upTo first (b - first + 1)) 0 (mx - 1) x = [(first, b), (mx - 1, mx)]) := Lib.hid fun x hx => span_far first b x hb2.1 hb2.2 hx
      have HL1 : Hid (upTo first (b - first + 1) = [(first, b)]) := Lib.hid (by unfold upTo; rw [if_neg (by omega)]; congr 2; omega)
      generalize upTo first (b - first + 1) = L at *
      obtain ⟨fr, hfr⟩ : ∃ fr, fr = 4611686018427387904 + far % 1000 := ⟨_, rfl⟩
      have hfr1 : 4611686018427387903 < fr ∧ fr < 4611686018427389000 := by omega
      have HFR : Hid ((4611686018427387904 : Int) + (far : Int) % 1000 = (fr : Int)) := Lib.hid (by omega)
      clear hfr
      go_wp2_with fail
      rw [show (b : Int) + 1 = ((b + 1 : Nat) : Int) from rfl]
      refine (HBE.out.span (b + 1) b (by omega) (by omega) (by omega)).mono ?_
      rw [span_none L (b + 1) b (by omega)]
      rintro e w3 ⟨rfl, hB, _⟩
      have HB3 := Lib.hid hB
      clear hB
      go_wp2_with fail
      rw [HFR.out, show (fr : Int) + 1 = ((fr + 1 : Nat) : Int) from rfl]
      refine (HB3.out.span fr (fr + 1) (by omega) (by omega) (by omega)).mono ?_
      rw [span_none L fr (fr + 1) (by have := HMX.out; omega)]
      rintro e w4 ⟨rfl, hB, _⟩
      have HB4 := Lib.hid hB
      have HR4 : Hid (Rd (w4.alloc (.cells #[.int .u64 (fr : Int)] 28)) 1 (.slice (Option.some ⟨w4.heap.size, 0, none⟩) 1 1) 1 (us [fr])) := Lib.hid (rd_us w4 [fr])
      clear hB
      go_wp2_with fail
      refine ((HB4.out.alloc _).add [fr] HR4.out (by intro g hg; rw [(mem_own hg).1]; simp) rfl (by omega) (by simp; omega)).mono ?_
      rw [far_add L fr (by have := HMX.out; omega)]
      rintro e w5 ⟨rfl, hB, _⟩
      have HB5 := Lib.hid (hB.less (J := []) (by simp))
      clear hB
      go_wp2_with fail
      refine (HB5.out.has fr).mono ?_
      rw [HFH.out fr (by omega)]
      rintro e w6 ⟨rfl, k⟩
      have HB6 := Lib.hid (HB5.out.keep k)
      clear k
      go_wp2_with fail
      refine (HB6.out.ranges 9 (by omega)).mono ?_
      rintro e w7 ⟨v1, rfl, k1, k2, _⟩
      have HV1 := Lib.hid k1
      have HB7 := Lib.hid (HB6.out.keep k2)
      clear k1 k2
      go_wp2_with fail
      refine (HB7.out.symm.ranges 9 (by omega)).mono ?_
      rintro e w8 ⟨v2, rfl, k1, k2, _⟩
      have HV2 := Lib.hid k1
      have HV3 := Lib.hid (HV1.out.touch k2 (by simp))
      have HB8 := Lib.hid (HB7.out.keep k2)
      clear k1 k2
      go_wp2_with fail
      refine (alike_same _ _ _ _ HV3.out HV2.out (by simp; omega)).mono ?_
      rintro e w9 ⟨rfl, k⟩
      have HB9 := Lib.hid (HB8.out.keep k)
      clear k
      go_wp2_with fail
      rw [show (4611686018427387902 : Int) = ((mx - 1 : Nat) : Int) from rfl]
      refine (HB9.out.span (mx - 1) fr (by omega) (by have := HMX.out; omega) (by omega)).mono ?_
      rw [HFS.out fr (by have := HMX.out; omega)]
      rintro e w10 ⟨rfl, hB, _⟩
      have HB10 := Lib.hid hB
      clear hB
      go_wp2_with fail
      rw [show (4611686018427387903 : Int) = ((mx : Nat) : Int) from rfl]
      refine (HB10.out.has mx).mono ?_
      rw [show hasB mx [(first, b), (mx - 1, mx)] = true from by simp [hasB]]
      rintro e w11 ⟨rfl, k⟩
      have HB11 := Lib.hid (HB10.out.keep k)
      clear k
      go_wp2_with fail
      refine (HB11.out.count).mono ?_
      rintro e w12 ⟨rfl, k⟩
      have HB12 := Lib.hid (HB11.out.keep k)
      clear k
      obtain ⟨m, hm⟩ : ∃ m, m = b - first + 1 := ⟨_, rfl⟩
      have hm2 : m < 2000 := by omega
      have hc1 : cnt [(first, b), (mx - 1, mx)] = m + 2 := by have := HMX.out; simp [cnt]; omega
      rw [hc1]
      have HC2 : Hid (cnt L = m) := Lib.hid (by rw [HL1.out, hm]; simp [cnt])
      clear hc1 hm
      go_wp2_with fail
      refine (HB12.out.symm.count).mono ?_
      rw [HC2.out]
      rintro e w13 ⟨rfl, k⟩
      have HT13 := Lib.hid (HT1.out.trans (HB12.out.base.trans k (by simp)) (by simp))
      clear k
      go_wp2_with fail
      go_ret
      exact ⟨ret_b (by simp), HT13.out⟩
end Go.Proofs.Ytbijoeemioeejaa
