/- The walk of the statement on bounds. Conditions: the numbers fit their kinds. -/
import Derived.Test.YtokbekiihdabhaaJ
import Derived.Deep.CutBlock
import Derived.Deep.DeepCutAuto
import Derived.Outline
import Derived.Deep.RegionWith
namespace Go.Proofs.Ytokbekiihdabhaa
open Go.RowKit

set_option maxHeartbeats 4000000 in
theorem bounds_walk (id k less : Int) (w : World) (h1 : 0 ≤ id) (h3 : 0 ≤ k) :
    Calls Try.prog 4 #[.int .u8 id, .int .u8 k, .int .i8 less] w
      fun e w' => e = .returned (.bool true) ∧ Below w.heap.size w w' := by
  go_enter Try.func4, Try.ntmps4
  go_wp2_with fail
  refine (known_any _).mono ?_
  rintro e w1 ⟨rfl, hb⟩
  have HB1 := Lib.hid hb
  clear hb
  go_upto_region 3 with fail
  go_cut [7] (fun s7 wx => ∃ v : Int, s7 = .int .u64 v ∧ Below w1.heap.size w1 wx)
  case first =>
    have hk : k % 7 = 0 ∨ k % 7 = 1 ∨ k % 7 = 2 ∨ k % 7 = 3 ∨ k % 7 = 4 ∨ k % 7 = 5 ∨ k % 7 = 6 := by omega
    have e1 : Int.tmod k 7 = k % 7 := Int.tmod_eq_emod_of_nonneg h3
    rcases hk with hk | hk | hk | hk | hk | hk | hk
    all_goals
      go_wp2_with fail
      go_meet
      exact ⟨_, rfl, (Below.refl _ _).alloc (Nat.le_refl _) _⟩
  case rest =>
    obtain ⟨v, rfl, hb⟩ := hcut
    have HB2 := Lib.hid (HB1.out.trans (hb.mono HB1.out.size))
    clear hb HB1
    have e2 : Int.tmod id 9 = id % 9 := Int.tmod_eq_emod_of_nonneg h1
    have b1 : 0 ≤ id % 9 := by omega
    have b2 : id % 9 ≤ 8 := by omega
    generalize hI : id % 9 = i at e2 b1 b2
    clear hI
    have eb : wrongN i v = wrongN i v := rfl
    clear eb
    go_wp2_with fail
    refine (dflt_any _).mono ?_
    rintro e w3 ⟨rfl, hb⟩
    have HB3 := Lib.hid (HB2.out.trans (hb.mono HB2.out.size))
    clear hb HB2
    have c1 := apply_any S6.dflt (some ⟨w3.heap.size, 0, none⟩) 1 [(i, v)] _ (by simp) (IsT.new w3 (i, v))
    rw [show applyL S6.dflt [(i, v)] = if wrongN i v = 0 then (S6.dflt.set i v, 0) else (S6.zero, wrongN i v) from rfl] at c1
    have C1 := Lib.hid c1
    clear c1
    go_wp2_with fail
    refine C1.out.mono ?_
    rintro e w4 ⟨rfl, hb⟩
    have HB4 := Lib.hid ((HB3.out.alloc HB3.out.size (.cells #[.int .u64 i, .int .u64 v] 32)).trans (hb.mono (by have := HB3.out.size; simp; omega)))
    clear hb HB3 C1
    have hw := wrongN_cases i v
    rcases hw with ⟨rfl, hv, hw⟩ | ⟨rfl, hv, hw⟩ | ⟨rfl, hv, hw⟩ | ⟨rfl, hv, hw⟩ | hw
    · rw [hw, if_neg (by decide)]
      have he := run_eqS S6.zero
      simp only [S6.zero] at he ⊢
      go_wp2_with fail
      go_ret
      exact ⟨rfl, HB4.out.alloc HB4.out.size _⟩
    · rw [hw, if_neg (by decide)]
      have he := run_eqS S6.zero
      simp only [S6.zero] at he ⊢
      go_wp2_with fail
      go_ret
      exact ⟨rfl, HB4.out.alloc HB4.out.size _⟩
    · rw [hw, if_neg (by decide)]
      have he := run_eqS S6.zero
      simp only [S6.zero] at he ⊢
      go_wp2_with fail
      go_ret
      exact ⟨rfl, HB4.out.alloc HB4.out.size _⟩
    · rw [hw, if_neg (by decide)]
      have he := run_eqS S6.zero
      simp only [S6.zero] at he ⊢
      go_wp2_with fail
      go_ret
      exact ⟨rfl, HB4.out.alloc HB4.out.size _⟩
    · rcases hw with ⟨rfl, hw⟩ | ⟨rfl, hv, hw⟩ | ⟨rfl, hw⟩ | ⟨rfl, hv, hw⟩ | ⟨rfl, hv, hv2, hw⟩ | ⟨rfl, hw⟩ | hw
      · rw [hw, if_pos rfl, show S6.dflt.set 1 v = ⟨v, 1, 4294967295, 65535, 16384, 4294967295⟩ from rfl]
        have he := run_eqW 0 v 1 4294967295 65535 16384 4294967295
        go_wp2_with fail
        refine (dfltR_any _).mono ?_
        rintro e w5 ⟨rfl, hb⟩
        have HS5 := Lib.hid ((IsBlk.new w4 [.int .u64 v, .int .u64 1, .int .u64 4294967295, .int .u64 65535, .int .u64 16384, .int .u64 4294967295] 24).below hb (by simp))
        have HB5 := Lib.hid ((HB4.out.alloc HB4.out.size (.cells #[.int .u64 v, .int .u64 1, .int .u64 4294967295, .int .u64 65535, .int .u64 16384, .int .u64 4294967295] 24)).trans (hb.mono (by have := HB4.out.size; simp; omega)))
        clear hb
        have hl5 := HS5.out.lt
        obtain ⟨x0, x1, x2, x3, x4, x5⟩ := six HS5.out
        go_wp2_with fail
        go_region_with (first | (go_at_call 7; refine (of_any _ _ _ _ _ _ _).mono ?_; rintro e w6 ⟨rfl, hb6⟩; have HW6 := Lib.hid ((IsBlk.new w5 [.int .u64 0, .int .u64 v, .int .u64 1, .int .u64 4294967295, .int .u64 65535, .int .u64 16384, .int .u64 4294967295] 29).drew.below hb6 (by simp)); have HB6 := Lib.hid ((HB5.out.alloc HB5.out.size (.cells #[.int .u64 0, .int .u64 v, .int .u64 1, .int .u64 4294967295, .int .u64 65535, .int .u64 16384, .int .u64 4294967295] 29)).drew.trans (hb6.mono (by have := HB5.out.size; simp; omega))); clear hb6; obtain ⟨y0, y1, y2, y3, y4, y5, y6⟩ := seven HW6.out))
        all_goals
          go_wp2_with fail
          go_ret
          exact ⟨rfl, HB6.out⟩
      · rw [hw, if_pos rfl, show S6.dflt.set 2 v = ⟨4096, v, 4294967295, 65535, 16384, 4294967295⟩ from rfl]
        have n1 : ¬ (1 < v) := by omega
        have he := run_eqW 0 4096 v 4294967295 65535 16384 4294967295
        go_wp2_with fail
        refine (dfltR_any _).mono ?_
        rintro e w5 ⟨rfl, hb⟩
        have HS5 := Lib.hid ((IsBlk.new w4 [.int .u64 4096, .int .u64 v, .int .u64 4294967295, .int .u64 65535, .int .u64 16384, .int .u64 4294967295] 24).below hb (by simp))
        have HB5 := Lib.hid ((HB4.out.alloc HB4.out.size (.cells #[.int .u64 4096, .int .u64 v, .int .u64 4294967295, .int .u64 65535, .int .u64 16384, .int .u64 4294967295] 24)).trans (hb.mono (by have := HB4.out.size; simp; omega)))
        clear hb
        have hl5 := HS5.out.lt
        obtain ⟨x0, x1, x2, x3, x4, x5⟩ := six HS5.out
        go_wp2_with fail
        go_region_with (first | (go_at_call 7; refine (of_any _ _ _ _ _ _ _).mono ?_; rintro e w6 ⟨rfl, hb6⟩; have HW6 := Lib.hid ((IsBlk.new w5 [.int .u64 0, .int .u64 4096, .int .u64 v, .int .u64 4294967295, .int .u64 65535, .int .u64 16384, .int .u64 4294967295] 29).drew.below hb6 (by simp)); have HB6 := Lib.hid ((HB5.out.alloc HB5.out.size (.cells #[.int .u64 0, .int .u64 4096, .int .u64 v, .int .u64 4294967295, .int .u64 65535, .int .u64 16384, .int .u64 4294967295] 29)).drew.trans (hb6.mono (by have := HB5.out.size; simp; omega))); clear hb6; obtain ⟨y0, y1, y2, y3, y4, y5, y6⟩ := seven HW6.out))
        all_goals
          go_wp2_with fail
          go_ret
          exact ⟨rfl, HB6.out⟩
      · rw [hw, if_pos rfl, show S6.dflt.set 3 v = ⟨4096, 1, v, 65535, 16384, 4294967295⟩ from rfl]
        have he := run_eqW 0 4096 1 v 65535 16384 4294967295
        go_wp2_with fail
        refine (dfltR_any _).mono ?_
        rintro e w5 ⟨rfl, hb⟩
        have HS5 := Lib.hid ((IsBlk.new w4 [.int .u64 4096, .int .u64 1, .int .u64 v, .int .u64 65535, .int .u64 16384, .int .u64 4294967295] 24).below hb (by simp))
        have HB5 := Lib.hid ((HB4.out.alloc HB4.out.size (.cells #[.int .u64 4096, .int .u64 1, .int .u64 v, .int .u64 65535, .int .u64 16384, .int .u64 4294967295] 24)).trans (hb.mono (by have := HB4.out.size; simp; omega)))
        clear hb
        have hl5 := HS5.out.lt
        obtain ⟨x0, x1, x2, x3, x4, x5⟩ := six HS5.out
        go_wp2_with fail
        go_region_with (first | (go_at_call 7; refine (of_any _ _ _ _ _ _ _).mono ?_; rintro e w6 ⟨rfl, hb6⟩; have HW6 := Lib.hid ((IsBlk.new w5 [.int .u64 0, .int .u64 4096, .int .u64 1, .int .u64 v, .int .u64 65535, .int .u64 16384, .int .u64 4294967295] 29).drew.below hb6 (by simp)); have HB6 := Lib.hid ((HB5.out.alloc HB5.out.size (.cells #[.int .u64 0, .int .u64 4096, .int .u64 1, .int .u64 v, .int .u64 65535, .int .u64 16384, .int .u64 4294967295] 29)).drew.trans (hb6.mono (by have := HB5.out.size; simp; omega))); clear hb6; obtain ⟨y0, y1, y2, y3, y4, y5, y6⟩ := seven HW6.out))
        all_goals
          go_wp2_with fail
          go_ret
          exact ⟨rfl, HB6.out⟩
      · rw [hw, if_pos rfl, show S6.dflt.set 4 v = ⟨4096, 1, 4294967295, v, 16384, 4294967295⟩ from rfl]
        have n1 : ¬ (2147483647 < v) := by omega
        have he := run_eqW 0 4096 1 4294967295 v 16384 4294967295
        go_wp2_with fail
        refine (dfltR_any _).mono ?_
        rintro e w5 ⟨rfl, hb⟩
        have HS5 := Lib.hid ((IsBlk.new w4 [.int .u64 4096, .int .u64 1, .int .u64 4294967295, .int .u64 v, .int .u64 16384, .int .u64 4294967295] 24).below hb (by simp))
        have HB5 := Lib.hid ((HB4.out.alloc HB4.out.size (.cells #[.int .u64 4096, .int .u64 1, .int .u64 4294967295, .int .u64 v, .int .u64 16384, .int .u64 4294967295] 24)).trans (hb.mono (by have := HB4.out.size; simp; omega)))
        clear hb
        have hl5 := HS5.out.lt
        obtain ⟨x0, x1, x2, x3, x4, x5⟩ := six HS5.out
        go_wp2_with fail
        go_region_with (first | (go_at_call 7; refine (of_any _ _ _ _ _ _ _).mono ?_; rintro e w6 ⟨rfl, hb6⟩; have HW6 := Lib.hid ((IsBlk.new w5 [.int .u64 0, .int .u64 4096, .int .u64 1, .int .u64 4294967295, .int .u64 v, .int .u64 16384, .int .u64 4294967295] 29).drew.below hb6 (by simp)); have HB6 := Lib.hid ((HB5.out.alloc HB5.out.size (.cells #[.int .u64 0, .int .u64 4096, .int .u64 1, .int .u64 4294967295, .int .u64 v, .int .u64 16384, .int .u64 4294967295] 29)).drew.trans (hb6.mono (by have := HB5.out.size; simp; omega))); clear hb6; obtain ⟨y0, y1, y2, y3, y4, y5, y6⟩ := seven HW6.out))
        all_goals
          go_wp2_with fail
          go_ret
          exact ⟨rfl, HB6.out⟩
      · rw [hw, if_pos rfl, show S6.dflt.set 5 v = ⟨4096, 1, 4294967295, 65535, v, 4294967295⟩ from rfl]
        have n1 : ¬ (v < 16384) := by omega
        have n2 : ¬ (16777215 < v) := by omega
        have he := run_eqW 0 4096 1 4294967295 65535 v 4294967295
        go_wp2_with fail
        refine (dfltR_any _).mono ?_
        rintro e w5 ⟨rfl, hb⟩
        have HS5 := Lib.hid ((IsBlk.new w4 [.int .u64 4096, .int .u64 1, .int .u64 4294967295, .int .u64 65535, .int .u64 v, .int .u64 4294967295] 24).below hb (by simp))
        have HB5 := Lib.hid ((HB4.out.alloc HB4.out.size (.cells #[.int .u64 4096, .int .u64 1, .int .u64 4294967295, .int .u64 65535, .int .u64 v, .int .u64 4294967295] 24)).trans (hb.mono (by have := HB4.out.size; simp; omega)))
        clear hb
        have hl5 := HS5.out.lt
        obtain ⟨x0, x1, x2, x3, x4, x5⟩ := six HS5.out
        go_wp2_with fail
        go_region_with (first | (go_at_call 7; refine (of_any _ _ _ _ _ _ _).mono ?_; rintro e w6 ⟨rfl, hb6⟩; have HW6 := Lib.hid ((IsBlk.new w5 [.int .u64 0, .int .u64 4096, .int .u64 1, .int .u64 4294967295, .int .u64 65535, .int .u64 v, .int .u64 4294967295] 29).drew.below hb6 (by simp)); have HB6 := Lib.hid ((HB5.out.alloc HB5.out.size (.cells #[.int .u64 0, .int .u64 4096, .int .u64 1, .int .u64 4294967295, .int .u64 65535, .int .u64 v, .int .u64 4294967295] 29)).drew.trans (hb6.mono (by have := HB5.out.size; simp; omega))); clear hb6; obtain ⟨y0, y1, y2, y3, y4, y5, y6⟩ := seven HW6.out))
        all_goals
          go_wp2_with fail
          go_ret
          exact ⟨rfl, HB6.out⟩
      · rw [hw, if_pos rfl, show S6.dflt.set 6 v = ⟨4096, 1, 4294967295, 65535, 16384, v⟩ from rfl]
        have he := run_eqW 0 4096 1 4294967295 65535 16384 v
        go_wp2_with fail
        refine (dfltR_any _).mono ?_
        rintro e w5 ⟨rfl, hb⟩
        have HS5 := Lib.hid ((IsBlk.new w4 [.int .u64 4096, .int .u64 1, .int .u64 4294967295, .int .u64 65535, .int .u64 16384, .int .u64 v] 24).below hb (by simp))
        have HB5 := Lib.hid ((HB4.out.alloc HB4.out.size (.cells #[.int .u64 4096, .int .u64 1, .int .u64 4294967295, .int .u64 65535, .int .u64 16384, .int .u64 v] 24)).trans (hb.mono (by have := HB4.out.size; simp; omega)))
        clear hb
        have hl5 := HS5.out.lt
        obtain ⟨x0, x1, x2, x3, x4, x5⟩ := six HS5.out
        go_wp2_with fail
        go_region_with (first | (go_at_call 7; refine (of_any _ _ _ _ _ _ _).mono ?_; rintro e w6 ⟨rfl, hb6⟩; have HW6 := Lib.hid ((IsBlk.new w5 [.int .u64 0, .int .u64 4096, .int .u64 1, .int .u64 4294967295, .int .u64 65535, .int .u64 16384, .int .u64 v] 29).drew.below hb6 (by simp)); have HB6 := Lib.hid ((HB5.out.alloc HB5.out.size (.cells #[.int .u64 0, .int .u64 4096, .int .u64 1, .int .u64 4294967295, .int .u64 65535, .int .u64 16384, .int .u64 v] 29)).drew.trans (hb6.mono (by have := HB5.out.size; simp; omega))); clear hb6; obtain ⟨y0, y1, y2, y3, y4, y5, y6⟩ := seven HW6.out))
        all_goals
          go_wp2_with fail
          go_ret
          exact ⟨rfl, HB6.out⟩
      · have h0 : wrongN i v = 0 := by rcases hw with h | h <;> exact h.2
        have hi : i = 0 ∨ i = 7 ∨ i = 8 := by rcases hw with h | h <;> omega
        clear hw
        rcases hi with rfl | rfl | rfl
        · rw [h0, if_pos rfl, show S6.dflt.set 0 v = ⟨4096, 1, 4294967295, 65535, 16384, 4294967295⟩ from rfl]
          have he := run_eqW 0 4096 1 4294967295 65535 16384 4294967295
          go_wp2_with fail
          refine (dfltR_any _).mono ?_
          rintro e w5 ⟨rfl, hb⟩
          have HS5 := Lib.hid ((IsBlk.new w4 [.int .u64 4096, .int .u64 1, .int .u64 4294967295, .int .u64 65535, .int .u64 16384, .int .u64 4294967295] 24).below hb (by simp))
          have HB5 := Lib.hid ((HB4.out.alloc HB4.out.size (.cells #[.int .u64 4096, .int .u64 1, .int .u64 4294967295, .int .u64 65535, .int .u64 16384, .int .u64 4294967295] 24)).trans (hb.mono (by have := HB4.out.size; simp; omega)))
          clear hb
          have hl5 := HS5.out.lt
          obtain ⟨x0, x1, x2, x3, x4, x5⟩ := six HS5.out
          go_wp2_with fail
          go_region_with (first | (go_at_call 7; refine (of_any _ _ _ _ _ _ _).mono ?_; rintro e w6 ⟨rfl, hb6⟩; have HW6 := Lib.hid ((IsBlk.new w5 [.int .u64 0, .int .u64 4096, .int .u64 1, .int .u64 4294967295, .int .u64 65535, .int .u64 16384, .int .u64 4294967295] 29).drew.below hb6 (by simp)); have HB6 := Lib.hid ((HB5.out.alloc HB5.out.size (.cells #[.int .u64 0, .int .u64 4096, .int .u64 1, .int .u64 4294967295, .int .u64 65535, .int .u64 16384, .int .u64 4294967295] 29)).drew.trans (hb6.mono (by have := HB5.out.size; simp; omega))); clear hb6; obtain ⟨y0, y1, y2, y3, y4, y5, y6⟩ := seven HW6.out))
          all_goals
            go_wp2_with fail
            go_ret
            exact ⟨rfl, HB6.out⟩
        · rw [h0, if_pos rfl, show S6.dflt.set 7 v = ⟨4096, 1, 4294967295, 65535, 16384, 4294967295⟩ from rfl]
          have he := run_eqW 0 4096 1 4294967295 65535 16384 4294967295
          go_wp2_with fail
          refine (dfltR_any _).mono ?_
          rintro e w5 ⟨rfl, hb⟩
          have HS5 := Lib.hid ((IsBlk.new w4 [.int .u64 4096, .int .u64 1, .int .u64 4294967295, .int .u64 65535, .int .u64 16384, .int .u64 4294967295] 24).below hb (by simp))
          have HB5 := Lib.hid ((HB4.out.alloc HB4.out.size (.cells #[.int .u64 4096, .int .u64 1, .int .u64 4294967295, .int .u64 65535, .int .u64 16384, .int .u64 4294967295] 24)).trans (hb.mono (by have := HB4.out.size; simp; omega)))
          clear hb
          have hl5 := HS5.out.lt
          obtain ⟨x0, x1, x2, x3, x4, x5⟩ := six HS5.out
          go_wp2_with fail
          go_region_with (first | (go_at_call 7; refine (of_any _ _ _ _ _ _ _).mono ?_; rintro e w6 ⟨rfl, hb6⟩; have HW6 := Lib.hid ((IsBlk.new w5 [.int .u64 0, .int .u64 4096, .int .u64 1, .int .u64 4294967295, .int .u64 65535, .int .u64 16384, .int .u64 4294967295] 29).drew.below hb6 (by simp)); have HB6 := Lib.hid ((HB5.out.alloc HB5.out.size (.cells #[.int .u64 0, .int .u64 4096, .int .u64 1, .int .u64 4294967295, .int .u64 65535, .int .u64 16384, .int .u64 4294967295] 29)).drew.trans (hb6.mono (by have := HB5.out.size; simp; omega))); clear hb6; obtain ⟨y0, y1, y2, y3, y4, y5, y6⟩ := seven HW6.out))
          all_goals
            go_wp2_with fail
            go_ret
            exact ⟨rfl, HB6.out⟩
        · rw [h0, if_pos rfl, show S6.dflt.set 8 v = ⟨4096, 1, 4294967295, 65535, 16384, 4294967295⟩ from rfl]
          have he := run_eqW 0 4096 1 4294967295 65535 16384 4294967295
          go_wp2_with fail
          refine (dfltR_any _).mono ?_
          rintro e w5 ⟨rfl, hb⟩
          have HS5 := Lib.hid ((IsBlk.new w4 [.int .u64 4096, .int .u64 1, .int .u64 4294967295, .int .u64 65535, .int .u64 16384, .int .u64 4294967295] 24).below hb (by simp))
          have HB5 := Lib.hid ((HB4.out.alloc HB4.out.size (.cells #[.int .u64 4096, .int .u64 1, .int .u64 4294967295, .int .u64 65535, .int .u64 16384, .int .u64 4294967295] 24)).trans (hb.mono (by have := HB4.out.size; simp; omega)))
          clear hb
          have hl5 := HS5.out.lt
          obtain ⟨x0, x1, x2, x3, x4, x5⟩ := six HS5.out
          go_wp2_with fail
          go_region_with (first | (go_at_call 7; refine (of_any _ _ _ _ _ _ _).mono ?_; rintro e w6 ⟨rfl, hb6⟩; have HW6 := Lib.hid ((IsBlk.new w5 [.int .u64 0, .int .u64 4096, .int .u64 1, .int .u64 4294967295, .int .u64 65535, .int .u64 16384, .int .u64 4294967295] 29).drew.below hb6 (by simp)); have HB6 := Lib.hid ((HB5.out.alloc HB5.out.size (.cells #[.int .u64 0, .int .u64 4096, .int .u64 1, .int .u64 4294967295, .int .u64 65535, .int .u64 16384, .int .u64 4294967295] 29)).drew.trans (hb6.mono (by have := HB5.out.size; simp; omega))); clear hb6; obtain ⟨y0, y1, y2, y3, y4, y5, y6⟩ := seven HW6.out))
          all_goals
            go_wp2_with fail
            go_ret
            exact ⟨rfl, HB6.out⟩
end Go.Proofs.Ytokbekiihdabhaa
