/- IndexFunc and DeleteFunc over numbers with the closure 44, whatever it does beside the numbers' own block. Conditions: none of their own. -/
import Derived.Test.YthnokfchebmjiaaD0
import Derived.Test.YthnokfchebmjiaaRgC
namespace Go.Proofs.Ythnokfchebmjiaa
open Go.RowKit

/-- What the closure does at each number. -/
def Does44 (c1 c2 c3 c4 : Value) (ks : List Nat) (d : Nat → Bool) (B : List Nat) (Inv : Nat → World → Prop) : Prop :=
  ∀ (i x : Nat) (w' : World), ks[i]? = some x → Inv i w' → Calls Try.prog 44 #[.int .u64 (x : Int), c1, c2, c3, c4] w' fun e w'' => e = .returned (.bool (d x)) ∧ Inv (i + 1) w'' ∧ Keeps B w' w''
set_option maxHeartbeats 1000000 in
theorem index44 (w : World) (c1 c2 c3 c4 : Value) (a : Option Addr) (n c : Nat) (ks : List Nat) (d : Nat → Bool) (Inv : Nat → World → Prop) (h : Sl w 28 1 (.slice a n c) n (us ks)) (hn : n ≤ 1099511627776) (hI : Inv 0 w) (hD : Does44 c1 c2 c3 c4 ks d (own (.slice a n c)) Inv) :
    Calls Try.prog 42 #[.slice a n c, .func (.func 44) #[] #[c1, c2, c3, c4]] w fun e w' => Keeps (own (.slice a n c)) w w' ∧
      ((∃ k x : Nat, e = .returned (.int .i64 (k : Int)) ∧ ks[k]? = some x ∧ d x = true ∧ (∀ y ∈ ks.take k, d y = false) ∧ Inv (k + 1) w') ∨ (e = .returned (.int .i64 (-1)) ∧ (∀ y ∈ ks, d y = false) ∧ Inv n w')) := by
  have hl : ks.length = n := by have := h.1; rw [us_len] at this; omega
  have H := Lib.hid h
  have HI := Lib.hid hI
  have HD := Lib.hid hD
  have HL := Lib.hid hl
  clear h hI hD hl
  go_enter Try.func42, Try.ntmps42
  go_wp2_with fail
  go_loopw [8] (fun i wr => ∃ k : Nat, k ≤ n ∧ i = .int .i64 (k : Int) ∧ Hid (∀ y ∈ ks.take k, d y = false) ∧ Hid (Inv k wr) ∧ Hid (Keeps (own (.slice a n c)) w wr)) (fun i _ => n - (intOf i).toNat)
  case atStart => exact ⟨0, by omega, rfl, Lib.hid (by simp), HI, Lib.hid (Keeps.refl _ _)⟩
  case round =>
    obtain ⟨k, hk, rfl, HF, HJ, HK⟩ := hrel
    by_cases hlt : k < n
    · have hlt' : (k : Int) < (n : Int) := by omega
      obtain ⟨x, hx⟩ : ∃ x, ks[k]? = some x := ⟨_, List.getElem?_eq_getElem (by rw [HL.out]; exact hlt)⟩
      obtain ⟨g, o, rfl, hc, hg, _, hnc, _, _⟩ := (H.out.keeps HK.out).word hx
      have HX := Lib.hid hx
      have HC := Lib.hid (HD.out k x _ hx HJ.out)
      clear hx
      obtain ⟨β, hβ⟩ : ∃ β, β = d x := ⟨_, rfl⟩
      rw [← hβ] at HC
      have HB := Lib.hid hβ
      clear hβ
      cases β with
      | true =>
        go_wp2_with fail
        refine HC.out.mono ?_
        rintro e w2 ⟨rfl, h1, h2⟩
        have J2 := Lib.hid h1
        have K2 := Lib.hid (HK.out.trans h2)
        clear h1 h2
        go_wp2_with fail
        go_ret
        exact ⟨K2.out, .inl ⟨k, x, rfl, HX.out, HB.out.symm, HF.out, J2.out⟩⟩
      | false =>
        go_wp2_with fail
        refine HC.out.mono ?_
        rintro e w2 ⟨rfl, h1, h2⟩
        have J2 := Lib.hid h1
        have K2 := Lib.hid (HK.out.trans h2)
        clear h1 h2
        go_wp2_with fail
        go_roundw
        case rel => exact ⟨k + 1, by omega, by go_num, Lib.hid (fun y hy => by
          rw [List.take_add_one, HX.out] at hy
          rcases List.mem_append.1 hy with h | h
          · exact HF.out y h
          · simp at h; subst h; exact HB.out.symm), J2, K2⟩
        case measure => simp [intOf]; omega
    · obtain rfl : k = n := by omega
      go_wp2_with fail
      go_ret
      exact ⟨HK.out, .inr ⟨rfl, fun y hy => HF.out y (by rw [← HL.out, List.take_length]; exact hy), HJ.out⟩⟩

set_option maxHeartbeats 2000000 in
theorem delete44 (w : World) (c1 c2 c3 c4 : Value) (a : Option Addr) (n c : Nat) (ks : List Nat) (d : Nat → Bool) (Inv : Nat → World → Prop) (h : Sl w 28 1 (.slice a n c) n (us ks)) (hn : n ≤ 1099511627776) (hI : Inv 0 w) (hD : Does44 c1 c2 c3 c4 ks d (own (.slice a n c)) Inv)
    (hS : ∀ i w1 w2, Inv i w1 → Touch (own (.slice a n c)) w1 w2 → Inv i w2) :
    Calls Try.prog 24 #[.slice a n c, .func (.func 44) #[] #[c1, c2, c3, c4]] w fun e w' => ∃ a' c', e = .returned (.slice a' (kept d ks n).length c') ∧ Sl w' 28 1 (.slice a' (kept d ks n).length c') (kept d ks n).length (us (kept d ks n)) ∧ (∀ g ∈ own (.slice a' (kept d ks n).length c'), g ∈ own (.slice a n c)) ∧ Inv n w' := by
  have hl : ks.length = n := by have := h.1; rw [us_len] at this; omega
  have H := Lib.hid h
  have HD := Lib.hid hD
  have HL := Lib.hid hl
  have HS := Lib.hid hS
  have HX := Lib.hid (index44 w c1 c2 c3 c4 a n c ks d Inv h hn hI hD)
  clear h hI hD hl hS
  go_enter Try.func24, Try.ntmps24
  go_wp2_with fail
  refine HX.out.mono ?_
  rintro e w2 ⟨hK, ⟨k, x, rfl, hx, hd, hf, hJ⟩ | ⟨rfl, hf, hJ⟩⟩
  · -- number k is the first that goes
    obtain ⟨g, o, rfl, _, hg, hfz, hnc, hgo, _⟩ := (H.out.keeps hK).word hx
    have S2 := Lib.hid (H.out.keeps hK)
    have J2 := Lib.hid hJ
    have hkn : k < n := by rw [← HL.out]; exact (List.getElem?_eq_some_iff.1 hx).1
    have CU := Lib.hid (Cur.start hx hd hf)
    have HE : Hid (kept d ks (k + 1) = ks.take k) := Lib.hid (by rw [kept_yes hx hd, kept_all hf])
    have HKL : Hid ((kept d ks (k + 1)).length = k) := Lib.hid (by rw [HE.out, List.length_take, HL.out]; omega)
    have hk1 : ¬ (k : Int) = -1 := by omega
    have hk2 : ((k : Int) == -1) = false := by simp
    clear hK hx hd hf hJ hg hfz HX
    go_wp2_with fail
    go_loopw [6, 5] (fun sj si wr => ∃ (j : Nat) (C : List Nat), j ≤ n ∧ sj = .int .i64 (j : Int) ∧ si = .int .i64 ((kept d ks j).length : Int) ∧ Hid (Cur d ks j C) ∧ Hid (Inv j wr) ∧ Hid (Sl wr 28 1 (.slice (some ⟨g, o, none⟩) n c) n (us C))) (fun sj _ _ => n - (intOf sj).toNat)
    case atStart => exact ⟨k + 1, ks, by omega, rfl, by rw [HKL.out], CU, J2, S2⟩
    case round =>
      obtain ⟨j, C, hj, rfl, rfl, HC, HJ, HSl⟩ := hrel
      have hi1 := HC.out.lt
      by_cases hlt : j < n
      · have hlt' : (j : Int) < (n : Int) := by omega
        obtain ⟨x, hx⟩ : ∃ x, ks[j]? = some x := ⟨_, List.getElem?_eq_getElem (by rw [HL.out]; exact hlt)⟩
        obtain ⟨g', o', he, hc, hg, hfz, _, _, _⟩ := HSl.out.word (HC.out.get hx)
        simp at he
        obtain ⟨rfl, rfl⟩ := he
        have HX := Lib.hid hx
        have HCA := Lib.hid (HD.out j x _ hx HJ.out)
        clear hx hfz
        obtain ⟨i, hi⟩ : ∃ i, i = (kept d ks j).length := ⟨_, rfl⟩
        rw [← hi] at hi1 ⊢
        have HIE := Lib.hid hi
        clear hi
        obtain ⟨β, hβ⟩ : ∃ β, β = d x := ⟨_, rfl⟩
        rw [← hβ] at HCA
        have HB := Lib.hid hβ
        clear hβ
        cases β with
        | true =>
          go_wp2_with fail
          refine HCA.out.mono ?_
          rintro e w3 ⟨rfl, h1, h2⟩
          have J3 := Lib.hid h1
          have S3 := Lib.hid (HSl.out.keeps h2)
          clear h1 h2
          go_wp2_with fail
          go_roundw
          case rel => exact ⟨j + 1, C, by omega, by go_num, by rw [kept_yes HX.out HB.out.symm, HIE.out], Lib.hid (HC.out.yes HX.out HB.out.symm), J3, S3⟩
          case measure => simp [intOf]; omega
        | false =>
          have hin : (i : Int) < (n : Int) := by omega
          go_wp2_with fail
          refine HCA.out.mono ?_
          rintro e w3 ⟨rfl, h1, h2⟩
          have J3 := Lib.hid h1
          have S3 := Lib.hid (HSl.out.keeps h2)
          obtain ⟨u, hu⟩ : ∃ u, C[i]? = some u := ⟨_, List.getElem?_eq_getElem (by rw [HC.out.len (by rw [HL.out]; omega), HL.out]; omega)⟩
          obtain ⟨g', o', he, hci, hgi, hfi, _, _, _⟩ := S3.out.word hu
          simp at he
          obtain ⟨rfl, rfl⟩ := he
          have fz := hfi (o + i)
          clear h1 h2 hu hfi
          go_wp2_with fail
          go_roundw
          case rel => exact ⟨j + 1, C.set i x, by omega, by go_num, by rw [kept_no HX.out HB.out.symm, List.length_append, ← HIE.out]; go_num, Lib.hid (by rw [HIE.out]; exact HC.out.no HX.out HB.out.symm), Lib.hid (HS.out _ _ _ J3.out ((Touch.refl _ _).set (.inl hgo) _)), Lib.hid (S3.out.set_word i x)⟩
          case measure => simp [intOf]; omega
      · obtain rfl : j = n := by omega
        have hln := HC.out.len (by rw [HL.out]; exact Nat.le_refl _)
        obtain ⟨i, hi⟩ : ∃ i, i = (kept d ks j).length := ⟨_, rfl⟩
        rw [← hi] at hi1 ⊢
        have HIE := Lib.hid hi
        obtain ⟨zs, hzl, hcl⟩ := run_clear_sl (P := Try.prog) (sz := 1) 37 _ und37 zero28 rfl (by intro u hu; rw [show (Value.int .u64 0).cells = #[.int .u64 0] from rfl] at hu; simp at hu; subst hu; rfl) HSl.out i (j - i) (by omega) ⟨g, o + i, none⟩ (fun _ => by rw [Nat.mul_one])
        rw [Nat.mul_one] at hcl
        have hS3 := Sl.setCells zs _ (i * 1) _ HSl.out
        rw [Nat.mul_one] at hS3
        have hS4 := hS3.part 0 i c (by omega) (by omega) (by omega)
        have hC := HC.out.take
        rw [lay_eq zs _ _ (by rw [us_len, hln, HL.out]; omega), Nat.zero_mul, Nat.add_zero, List.drop_zero, Nat.mul_one, List.append_assoc, List.take_append_of_le_length (by rw [List.length_take, us_len, hln, HL.out]; omega), List.take_take, Nat.min_self] at hS4
        rw [show (us C).take i = us (kept d ks j) from by rw [← hC, ← hi]; unfold us; rw [List.map_take]] at hS4
        have HS4 := Lib.hid hS4
        have HJ4 := Lib.hid (HS.out _ _ _ HJ.out ((Touch.setCells zs (o + i) _ : Touch [g] _ _).mono (fun q hq => .inl (by simp at hq; subst hq; exact hgo))))
        have q1 : (i : Int) ≤ (j : Int) := by omega
        have q2 : i ≤ j := by omega
        have q3 : ¬ c = i := by omega
        have q4 : ¬ c = 0 := by omega
        have q5 : (i : Int) ≤ (c : Int) := by omega
        clear hS4 hS3 hC hln hi
        go_wp2_with (simp only [hcl])
        go_ret
        rw [← HIE.out]
        exact ⟨_, c, rfl, HS4.out, fun q hq => by rw [own_some _ _ _ (by omega)] at hq ⊢; exact hq, HJ4.out⟩
  · -- nothing goes
    have S2 := Lib.hid (H.out.keeps hK)
    have J2 := Lib.hid hJ
    have HE : Hid (kept d ks n = ks) := Lib.hid (by rw [kept_all (fun y hy => hf y (List.mem_of_mem_take hy)), ← HL.out, List.take_length])
    clear hK hf hJ HX
    go_wp2_with fail
    go_ret
    rw [HE.out, HL.out]
    exact ⟨a, c, rfl, S2.out, fun g hg => hg, J2.out⟩
end Go.Proofs.Ythnokfchebmjiaa
