/- The walk of HalfCredit. Conditions: none. -/
import Derived.Test.YtmidlielcioinaaQ
namespace Go.Proofs.Ytmidlielcioinaa
open Go.RowKit

set_option maxHeartbeats 4000000 in
set_option maxRecDepth 100000 in
theorem credit_walk (w : World) (a b c : Nat) (ha : a < 256) (hb : b < 256) (hc : c < 256) : Calls Try.prog 5 #[.int .u8 (a : Int), .int .u8 (b : Int), .int .u8 (c : Int)] w fun e w' => e = .returned (.bool true) ∧ Touch [] w w' := by
  have hmk := make_zero b (by omega)
  have HW := Lib.hid (cs_new a b ha)
  obtain ⟨μ, hμ⟩ : ∃ μ, μ = min b a := ⟨_, rfl⟩
  have HMU := Lib.hid hμ
  obtain ⟨φ, hφ⟩ : ∃ φ, φ = decide (μ = b) := ⟨_, rfl⟩
  have HPH := Lib.hid hφ
  obtain ⟨M, hM⟩ : ∃ M, M = max a c := ⟨_, rfl⟩
  have HM' := Lib.hid hM
  obtain ⟨ν, hν⟩ : ∃ ν, ν = min b M := ⟨_, rfl⟩
  have HNU := Lib.hid hν
  obtain ⟨ψ, hψ⟩ : ∃ ψ, ψ = decide (ν = b) := ⟨_, rfl⟩
  have HPS := Lib.hid hψ
  have HG := Lib.hid (cs_grow b a μ c φ hc)
  rw [← hM] at HG
  have n1 : min (a : Int) (b : Int) = (μ : Int) := by omega
  have n2 : ((μ : Int) == (b : Int)) = φ := by
    rw [hφ]
    by_cases e : μ = b
    · rw [decide_eq_true e, e]; simp
    · rw [decide_eq_false e]; simp; omega
  have n3 : max (a : Int) (c : Int) = (M : Int) := by omega
  have n4 : min (M : Int) (b : Int) = (ν : Int) := by omega
  have n5 : ((ν : Int) == (b : Int)) = ψ := by
    rw [hψ]
    by_cases e : ν = b
    · rw [decide_eq_true e, e]; simp
    · rw [decide_eq_false e]; simp; omega
  have hM256 : M < 256 := by omega
  clear hμ hφ hM hν hψ
  go_enter Try.func5, Try.ntmps5
  go_wp2_with fail
  refine (known_any _).mono ?_
  rintro e w1 ⟨rfl, hT⟩
  have T1 := Lib.hid hT
  clear hT
  go_wp2_with fail
  refine (at_new w w1 a T1.out).mono ?_
  rintro e w2 ⟨p, rfl, h⟩
  have A2 := Lib.hid h
  clear h
  go_wp2_with fail
  refine (at_write (A2.out.keep ((Touch.refl _ _).alloc _)) _ b (z0 b) true (rd_zero w2 b) (z0_len b) (by show 0 + b ≤ 50000; omega)).mono ?_
  rw [HW.out]
  rintro e w3 ⟨rfl, h⟩
  have A3 := Lib.hid h
  clear h
  go_upto_block 0 with (fail)
  go_cut [8, 9] (fun s8 s9 wx => s8 = .int .i64 (μ : Int) ∧ s9 = .bool φ ∧ Hid (AtSnd w wx p (cs b a μ φ) []))
  case first =>
    go_wp2_with fail
    go_loopw [10, 8, 9] (fun i s8 s9 wr => ∃ (k tt : Nat) (f : Bool), k ≤ 40 ∧ i = .int .i64 (k : Int) ∧ s8 = .int .i64 (tt : Int) ∧ s9 = .bool f ∧ Hid (f = decide (tt = b ∧ 0 < k + b)) ∧ Hid (AtSnd w wr p (cs b a tt f) []) ∧ tt ≤ min b a ∧ min (10 * k) (min b a) ≤ tt) (fun i _ _ _ => 40 - (intOf i).toNat)
    case atStart => exact ⟨0, 0, false, by omega, by simp, by simp, rfl, Lib.hid (decide_eq_false (by omega)).symm, A3, by omega, by omega⟩
    case round =>
      obtain ⟨k, tt, f, hk, rfl, rfl, rfl, HF, HJ, r1, r2⟩ := hrel
      by_cases hlt : k < 40
      · have hlt' : (k : Int) < 40 := by omega
        by_cases hA : tt < min b a
        · obtain rfl : f = false := by rw [HF.out]; exact decide_eq_false (by omega)
          have HC := Lib.hid (cs_some b a tt false hA rfl)
          obtain ⟨m, hm⟩ : ∃ m, m = min 10 (min b a - tt) := ⟨_, rfl⟩
          rw [← hm] at HC
          have hm1 : 1 ≤ m ∧ m ≤ 10 ∧ tt + m ≤ min b a := by omega
          have HM := Lib.hid hm
          clear hm
          go_wp2_with fail
          refine (at_next HJ.out 10 (by decide)).mono ?_
          rw [show ((10 : Int)).toNat = 10 from rfl, HC.out]
          rintro e w4 ⟨v, rfl, hv, h⟩
          have HJ4 := Lib.hid h.drop
          have hv := hv.form
          simp only [z0_len] at hv
          obtain ⟨va, vc, rfl⟩ := hv
          clear h
          go_wp2_with fail
          go_roundw
          case rel => exact ⟨k + 1, tt + m, decide (tt + m = b), by omega, by go_num, by go_num, by simp, Lib.hid (by have := HM.out; congr 1; simp; try omega), HJ4, by omega, by have := HM.out; omega⟩
          case measure => simp [intOf]; omega
        · have hA' : min b a - tt = 0 := by omega
          rcases Decidable.em (f = false ∧ tt = b) with hE | hE
          · obtain ⟨rfl, hE2⟩ := hE
            have HC := Lib.hid (cs_end b a tt hA' hE2)
            have HE2 := Lib.hid hE2
            clear hE2
            go_wp2_with fail
            refine (at_next HJ.out 10 (by decide)).mono ?_
            rw [show ((10 : Int)).toNat = 10 from rfl, HC.out]
            rintro e w4 ⟨v, rfl, hv, h⟩
            have HJ4 := Lib.hid h.drop
            have hv := hv.form
            simp only [List.length_nil] at hv
            obtain ⟨va, vc, rfl⟩ := hv
            clear h
            go_wp2_with fail
            go_roundw
            case rel => exact ⟨k + 1, tt, true, by omega, by go_num, by go_num, rfl, Lib.hid (decide_eq_true ⟨HE2.out, by omega⟩).symm, HJ4, r1, by omega⟩
            case measure => simp [intOf]; omega
          have hB : f = true ∨ tt ≠ b := by
            cases f
            · exact .inr fun h => hE ⟨rfl, h⟩
            · exact .inl rfl
          · have HC := Lib.hid (cs_none b a tt f hA' hB)
            go_wp2_with fail
            refine (at_next HJ.out 10 (by decide)).mono ?_
            rw [show ((10 : Int)).toNat = 10 from rfl, HC.out]
            rintro e w4 ⟨v, rfl, _, h⟩
            have HJ4 := Lib.hid h.drop
            clear h
            go_wp2_with fail
            go_meet
            case rel =>
              have he : μ = tt := by have := HMU.out; omega
              have hfe : φ = f := by rw [HPH.out, HF.out, he]; exact decide_eq_decide.2 ⟨fun h => ⟨h, Classical.byContradiction fun h0 => by have hf := HF.out; rw [decide_eq_false (fun x => h0 x.2)] at hf; exact hB.elim (fun x => by rw [hf] at x; cases x) (fun x => x h)⟩, fun h => h.1⟩
              exact ⟨by rw [he], by rw [hfe], by rw [hfe, he]; exact HJ4⟩
      · obtain rfl : k = 40 := by omega
        go_wp2_with fail
        go_meet
        case rel =>
          have he : μ = tt := by have := HMU.out; omega
          have hfe : φ = f := by rw [HPH.out, HF.out, he]; exact decide_eq_decide.2 ⟨fun h => ⟨h, by omega⟩, fun h => h.1⟩
          exact ⟨by rw [he], by rw [hfe], by rw [hfe, he]; exact HJ⟩
  case rest =>
  obtain ⟨rfl, rfl, HJ⟩ := hcut
  go_wp2_with fail
  refine (at_grow HJ.out c).mono ?_
  rw [HG.out]
  rintro e w5 ⟨rfl, h⟩
  have A5 := Lib.hid h
  clear h
  go_upto_block 2 with (fail)
  go_cut [8, 9] (fun s8 s9 wx => s8 = .int .i64 (ν : Int) ∧ s9 = .bool ψ ∧ Hid (AtSnd w wx p (cs b M ν ψ) []))
  case first =>
    go_wp2_with fail
    go_loopw [15, 8, 9] (fun i s8 s9 wr => ∃ (k tt : Nat) (f : Bool), k ≤ 40 ∧ i = .int .i64 (k : Int) ∧ s8 = .int .i64 (tt : Int) ∧ s9 = .bool f ∧ Hid (f = decide (tt = b)) ∧ Hid (AtSnd w wr p (cs b M tt f) []) ∧ tt ≤ min b M ∧ min (10 * k) (min b M) ≤ tt) (fun i _ _ _ => 40 - (intOf i).toNat)
    case atStart => exact ⟨0, μ, φ, by omega, by simp, rfl, rfl, HPH, A5, by have := HMU.out; have := HM'.out; omega, by omega⟩
    case round =>
      obtain ⟨k, tt, f, hk, rfl, rfl, rfl, HF, HJ, r1, r2⟩ := hrel
      by_cases hlt : k < 40
      · have hlt' : (k : Int) < 40 := by omega
        by_cases hA : tt < min b M
        · obtain rfl : f = false := by rw [HF.out]; exact decide_eq_false (by omega)
          have HC := Lib.hid (cs_some b M tt false hA rfl)
          obtain ⟨m, hm⟩ : ∃ m, m = min 10 (min b M - tt) := ⟨_, rfl⟩
          rw [← hm] at HC
          have hm1 : 1 ≤ m ∧ m ≤ 10 ∧ tt + m ≤ min b M := by omega
          have HM := Lib.hid hm
          clear hm
          go_wp2_with fail
          refine (at_next HJ.out 10 (by decide)).mono ?_
          rw [show ((10 : Int)).toNat = 10 from rfl, HC.out]
          rintro e w4 ⟨v, rfl, hv, h⟩
          have HJ4 := Lib.hid h.drop
          have hv := hv.form
          simp only [z0_len] at hv
          obtain ⟨va, vc, rfl⟩ := hv
          clear h
          go_wp2_with fail
          go_roundw
          case rel => exact ⟨k + 1, tt + m, decide (tt + m = b), by omega, by go_num, by go_num, by simp, Lib.hid rfl, HJ4, by omega, by have := HM.out; omega⟩
          case measure => simp [intOf]; omega
        · have hA' : min b M - tt = 0 := by omega
          have hB : f = true ∨ tt ≠ b := by
            by_cases e : tt = b
            · exact .inl (by rw [HF.out]; exact decide_eq_true e)
            · exact .inr e
          · have HC := Lib.hid (cs_none b M tt f hA' hB)
            go_wp2_with fail
            refine (at_next HJ.out 10 (by decide)).mono ?_
            rw [show ((10 : Int)).toNat = 10 from rfl, HC.out]
            rintro e w4 ⟨v, rfl, _, h⟩
            have HJ4 := Lib.hid h.drop
            clear h
            go_wp2_with fail
            go_meet
            case rel =>
              have he : ν = tt := by have := HNU.out; omega
              have hfe : ψ = f := by rw [HPS.out, HF.out, he]
              exact ⟨by rw [he], by rw [hfe], by rw [hfe, he]; exact HJ4⟩
      · obtain rfl : k = 40 := by omega
        go_wp2_with fail
        go_meet
        case rel =>
          have he : ν = tt := by have := HNU.out; omega
          have hfe : ψ = f := by rw [HPS.out, HF.out, he]
          exact ⟨by rw [he], by rw [hfe], by rw [hfe, he]; exact HJ⟩
  case rest =>
  obtain ⟨rfl, rfl, HJ⟩ := hcut
  have HT := Lib.hid HJ.out.touch
  go_wp2_with fail
  go_ret
  exact ⟨rfl, HT.out⟩
end Go.Proofs.Ytmidlielcioinaa

