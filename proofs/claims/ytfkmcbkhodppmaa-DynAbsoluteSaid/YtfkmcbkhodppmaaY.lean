/- The walk of the example. Conditions: none of their own. -/
import Derived.Test.YtfkmcbkhodppmaaO
import Derived.Test.YtfkmcbkhodppmaaU
namespace Go.Proofs.Ytfkmcbkhodppmaa
open Go.RowKit Go.Maps
set_option linter.unusedVariables false

theorem rd_new (w : World) (l : List Fld) {n m : Nat} (hn : w.heap.size = n) (hm : l.length = m) : Rd (w.alloc (.cells (cf l).toArray 26)) 2 (.slice (some ⟨n, 0, none⟩) m m) m (cf l) := by
  subst hn
  subst hm
  refine ⟨cf_len l, .inr ⟨_, 0, _, rfl, Nat.le_refl _, fun _ => by simp, fun j hj => ?_⟩⟩
  have h := (IsBlk.new w (cf l) 26).cell j
  simp only [Nat.zero_add]
  exact h
def fA : Fld := (⟨#[97]⟩, ⟨#[98]⟩)
def fC : Fld := (⟨#[99]⟩, ⟨#[]⟩)
def fD : Fld := (⟨#[100]⟩, ⟨#[]⟩)
theorem k_add1 : addA 70 ⟨[], 0⟩ [fA, fC] = ⟨[fA, fC], 2⟩ ∧ goneA 70 ⟨[], 0⟩ [fA, fC] = 0 := by constructor <;> rfl
theorem k_add2 : addA 70 ⟨[fA, fC], 2⟩ [fD] = ⟨[fC, fD], 3⟩ ∧ goneA 70 ⟨[fA, fC], 2⟩ [fD] = 1 := by constructor <;> rfl
theorem k_at1 : TS.at_ ⟨[fC, fD], 3⟩ 1 = some fC := rfl
theorem k_at0 : TS.at_ ⟨[fC, fD], 3⟩ 0 = none := rfl
theorem k_new : TS.new_ ⟨[fC, fD], 3⟩ 0 = some fD := rfl
theorem k_find : TS.find_ ⟨[fC, fD], 3⟩ fC = (1, true, true) := by decide
theorem k_size : szL [fC, fD] = 66 := rfl
theorem k_sz : sz fA = 34 ∧ sz fC = 33 ∧ sz fD = 33 := ⟨rfl, rfl, rfl⟩

theorem fo_C : fopt (some fC) = .tuple #[.agg #[.string ⟨#[99]⟩, .string ⟨#[]⟩], .bool true] := rfl
theorem fo_D : fopt (some fD) = .tuple #[.agg #[.string ⟨#[100]⟩, .string ⟨#[]⟩], .bool true] := rfl
theorem fo_n : fopt none = .tuple #[.agg #[.string ⟨#[]⟩, .string ⟨#[]⟩], .bool false] := rfl
theorem fd_C : found (1, true, true) = .tuple #[.int .u64 1, .bool true, .bool true] := rfl

set_option maxRecDepth 100000 in
set_option maxHeartbeats 8000000 in
theorem known_any (w : World) : Calls Try.prog 8 #[] w fun e w' => e = .returned (.bool true) ∧ Touch [] w w' := by
  go_enter Try.func8, Try.ntmps8
  go_wp2_with fail
  refine (new_any 70 _).mono ?_
  rintro e w1 ⟨t, F, rfl, hT, hF, hk⟩
  have T1 : Hid (IsTab w1 t F ⟨[], 0⟩ 70) := Lib.hid hT
  have HF := Lib.hid hF
  have K1 := Lib.hid hk
  clear hT hF hk
  go_wp2_with fail
  refine (add_any (cap := 70) (T1.out.keep ((Touch.refl [] _).alloc _)) _ [fA, fC] (rd_new w1 [fA, fC] rfl rfl) (by intro g hg hm; have := T1.out.lt g hm; have := (mem_own hg).1; simp at this; omega) ⟨Nat.le_refl _, Nat.zero_le _⟩ (by omega) (by decide) (by intro y hy; simp only [List.mem_cons, List.not_mem_nil, or_false] at hy; rcases hy with rfl | rfl <;> decide)).mono ?_
  rw [k_add1.1, k_add1.2]
  rintro e w2 ⟨rfl, F2, hT, hk, hF2⟩
  have T2 := Lib.hid hT
  have HF2 := Lib.hid hF2
  have K2 := Lib.hid hk
  clear hT hk hF2
  go_wp2_with fail
  refine (add_any (cap := 70) (T2.out.keep ((Touch.refl [] _).alloc _)) _ [fD] (rd_new w2 [fD] rfl rfl) (by intro g hg hm; have := T2.out.lt g hm; have := (mem_own hg).1; simp at this; omega) ⟨by decide, by decide⟩ (by omega) (by decide) (by intro y hy; simp only [List.mem_cons, List.not_mem_nil, or_false] at hy; subst hy; decide)).mono ?_
  rw [k_add2.1, k_add2.2]
  rintro e w3 ⟨rfl, F3, hT, hk, hF3⟩
  have T3 := Lib.hid hT
  have HT3 := Lib.hid (show Touch [] w w3 from by
    have hs1 := K1.out.size
    have hs2 := K2.out.size
    simp at hs2
    have h1 : Touch F w (w1.alloc (.cells #[.string ⟨#[97]⟩, .string ⟨#[98]⟩, .string ⟨#[99]⟩, .string ⟨#[]⟩] 26)) := (K1.out.mono (by simp)).alloc _
    refine ((((K1.out.alloc _).trans K2.out (fun g hg => .inr (HF.out g hg))).alloc _).trans hk (fun g hg => .inr ?_))
    rcases HF2.out g hg with h | h
    · exact HF.out g h
    · simp at h; omega)
  clear hT hk hF3
  go_wp2_with fail
  refine (at_any T3.out (by decide) 1 (by omega) _ k_at1).mono ?_
  rw [fo_C]
  rintro e w4 ⟨rfl, hk⟩
  have T4 := Lib.hid (T3.out.keep hk)
  have HT4 := Lib.hid (HT3.out.trans hk (by simp))
  clear hk
  go_wp2_with fail
  refine (at_any (T4.out.keep ((Touch.refl [] _).alloc _)) (by decide) 0 (by omega) _ k_at0).mono ?_
  rw [fo_n]
  rintro e w5 ⟨rfl, hk⟩
  have T5 := Lib.hid ((T4.out.keep ((Touch.refl [] _).alloc _)).keep hk)
  have HT5 := Lib.hid ((HT4.out.alloc _).trans hk (by simp))
  have B5 := Lib.hid ((IsBlk.new w4 [.string ⟨#[99]⟩, .string ⟨#[]⟩] 26).touch hk (by simp))
  clear hk
  go_wp2_with fail
  refine (newest_any (T5.out.keep ((Touch.refl [] _).alloc _)) (by decide) 0 (by omega) _ k_new).mono ?_
  rw [fo_D]
  rintro e w6 ⟨rfl, hk⟩
  have T6 := Lib.hid ((T5.out.keep ((Touch.refl [] _).alloc _)).keep hk)
  have HT6 := Lib.hid ((HT5.out.alloc _).trans hk (by simp))
  have B6 := Lib.hid ((B5.out.alloc _).touch hk (by simp))
  clear hk
  go_wp2_with fail
  refine (find_any (T6.out.keep ((Touch.refl [] _).alloc _)) fC ⟨by decide, by decide⟩).mono ?_
  rw [k_find, fd_C]
  rintro e w7 ⟨rfl, hk⟩
  have T7 := Lib.hid ((T6.out.keep ((Touch.refl [] _).alloc _)).keep hk)
  have HT7 := Lib.hid ((HT6.out.alloc _).trans hk (by simp))
  have B7 := Lib.hid ((B6.out.alloc _).touch hk (by simp))
  have D7 := Lib.hid ((IsBlk.new w6 [.string ⟨#[100]⟩, .string ⟨#[]⟩] 26).touch hk (by simp))
  clear hk
  have b0 := B7.out.cell 0
  have d0 := D7.out.cell 0
  have bl := B7.out.lt
  have dl := D7.out.lt
  simp only [List.getElem?_cons_zero] at b0 d0
  go_wp2_with fail
  refine (tabSize_any T7.out).mono ?_
  rw [k_size]
  rintro e w8 ⟨rfl, rfl⟩
  go_wp2_with fail
  refine (len_any T7.out).mono ?_
  rintro e w8 ⟨rfl, rfl⟩
  go_wp2_with fail
  refine (count_any T7.out).mono ?_
  rintro e w8 ⟨rfl, rfl⟩
  go_wp2_with fail
  refine (cap_any T7.out).mono ?_
  rintro e w8 ⟨rfl, rfl⟩
  go_wp2_with fail
  go_ret
  exact ⟨rfl, HT7.out⟩
end Go.Proofs.Ytfkmcbkhodppmaa
