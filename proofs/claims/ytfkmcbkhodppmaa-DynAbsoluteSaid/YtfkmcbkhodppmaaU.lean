/- The contract of the document's Find. Conditions: the sizes are no more than 2^40. -/
import Derived.Test.YtfkmcbkhodppmaaQ
namespace Go.Proofs.Ytfkmcbkhodppmaa
open Go.RowKit Go.Maps
set_option linter.unusedVariables false

theorem lastOf_step (p : Fld → Bool) (L : List Fld) (b j : Nat) (x : Fld) (hx : L[j]? = some x) : lastOf p (L.drop j) (b + j) = (lastOf p (L.drop (j + 1)) (b + (j + 1))).or (if p x then some ((b + j : Nat) : Int) else none) := by
  have hj : j < L.length := (List.getElem?_eq_some_iff.1 hx).1
  have e : L.drop j = x :: L.drop (j + 1) := by
    rw [List.drop_eq_getElem_cons hj]
    rw [List.getElem?_eq_getElem hj] at hx
    simp at hx
    rw [hx]
  rw [e, lastOf, Nat.add_assoc]
theorem lastOf_up (p : Fld → Bool) (L : List Fld) (b j : Nat) (hj : j ≤ L.length) (i : Int) (h : lastOf p (L.drop j) (b + j) = some i) : lastOf p L b = some i := by
  have := lastOf_append p (L.drop j) (L.take j) b
  rw [List.take_append_drop] at this
  rw [this]
  have hl : (L.take j).length = j := by simp; omega
  rw [hl, h]
  rfl
/-- Nothing of a kind from place n on. -/
def noneFrom (p : Fld → Bool) (L : List Fld) (b : Nat) (i : Int) : Prop := lastOf p (L.drop (i + 1).toNat) (b + (i + 1).toNat) = none
theorem noneFrom_end (p : Fld → Bool) (L : List Fld) (b : Nat) : noneFrom p L b ((L.length : Int) - 1) := by
  unfold noneFrom
  rw [show ((L.length : Int) - 1 + 1).toNat = L.length from by omega, List.drop_length]
  rfl
theorem noneFrom_all (p : Fld → Bool) (L : List Fld) (b : Nat) (i : Int) (hi : i = -1) (h : noneFrom p L b i) : lastOf p L b = none := by
  subst hi
  simpa [noneFrom] using h
theorem noneFrom_down (p : Fld → Bool) (L : List Fld) (b j : Nat) (x : Fld) (hx : L[j]? = some x) (hp : p x = false) (h : noneFrom p L b (j : Int)) : noneFrom p L b ((j : Int) - 1) := by
  unfold noneFrom at *
  rw [show ((j : Int) - 1 + 1).toNat = j from by omega, lastOf_step p L b j x hx]
  rw [show ((j : Int) + 1).toNat = j + 1 from by omega] at h
  rw [h, hp]
  rfl
theorem noneFrom_here (p : Fld → Bool) (L : List Fld) (b j : Nat) (x : Fld) (hx : L[j]? = some x) (hp : p x = true) (h : noneFrom p L b (j : Int)) : lastOf p L b = some ((b + j : Nat) : Int) := by
  have hj : j < L.length := (List.getElem?_eq_some_iff.1 hx).1
  refine lastOf_up p L b j (by omega) _ ?_
  unfold noneFrom at h
  rw [show ((j : Int) + 1).toNat = j + 1 from by omega] at h
  rw [lastOf_step p L b j x hx, h, hp]
  rfl

set_option maxRecDepth 100000 in
set_option maxHeartbeats 4000000 in
theorem refFind_any {w : World} {t cap : Nat} {F : List Nat} {s : TS} (h : IsRef w t F s cap) (f : Fld) (hc : s.cnt ≤ 1099511627776) :
    Calls Try.prog 31 #[.pointer (some ⟨t, 0, none⟩), .agg #[.string f.1, .string f.2]] w fun e w' => e = .returned (found (s.find_ f)) ∧ Touch [] w w' := by
  obtain ⟨f1, f2⟩ := f
  have HR := Lib.hid (h.keep ((Touch.refl [] w).alloc (.cells #[.string f1, .string f2] 26)))
  have HT := Lib.hid ((Touch.refl [] w).alloc (.cells #[.string f1, .string f2] 26))
  have HI := Lib.hid (IsBlk.new w [.string f1, .string f2] 26)
  have HFL := Lib.hid (show s.L.length ≤ s.cnt from let ⟨_, _, _, _, _, _, h6⟩ := h; h6)
  have hll : (s.L.length : Int) ≤ 1099511627776 := by have := HFL.out; omega
  have HCC := Lib.hid hc
  have HRW := Lib.hid h
  obtain ⟨a, c, h1, h2, hF, h5, h6⟩ := h
  have c0 := h1.cell 0
  have htl := h1.lt
  simp only [List.getElem?_cons_zero] at c0
  have H1 := Lib.hid h1
  have H2 := Lib.hid (h2.touch ((Touch.refl [] w).alloc (.cells #[.string f1, .string f2] 26)) (by simp))
  clear hc h1 h2 hF h5 h6
  go_enter Try.func31, Try.ntmps31
  go_wp2_with fail
  have H1 := Lib.hid (H1.out.alloc (.cells #[.string f1, .string f2] 26))
  clear c0 htl
  generalize w.alloc (.cells #[.string f1, .string f2] 26) = W at *
  generalize w.heap.size = p at *
  obtain ⟨b, hb⟩ : ∃ b, s.first = b := ⟨_, rfl⟩
  have HB := Lib.hid hb
  have hbb : (b : Int) + (s.L.length : Int) ≤ 1099511627776 := by have := HCC.out; have := HFL.out; unfold TS.first at hb; omega
  clear hb
  have FA : ∀ n, Calls Try.prog 29 #[.pointer (some ⟨t, 0, none⟩)] (W.drewN n) fun e w' => e = .returned (.int .u64 b) ∧ ∃ m, w' = (W.drewN n).drewN m := fun n => by
    have := refFirst_any (HR.out.keep ((Touch.refl [] _).drewN n)) HCC.out
    rw [HB.out] at this
    exact this
  have HFA := Lib.hid FA
  clear FA
  have c0 := H1.out.cell 0
  have htl := H1.out.lt
  have i0 := HI.out.cell 0
  have i1 := HI.out.cell 1
  have hpl := HI.out.lt
  simp only [List.getElem?_cons_zero, List.getElem?_cons_succ] at c0 i0 i1
  go_loopw [7] (fun s7 wr => ∃ i : Int, s7 = .int .i64 i ∧ -1 ≤ i ∧ i < s.L.length ∧ noneFrom (fun y => decide (y = (f1, f2))) s.L b i ∧ ∃ n, wr = W.drewN n) (fun s7 _ => (intOf s7 + 1).toNat)
  case atStart => exact ⟨_, rfl, by omega, by omega, noneFrom_end _ _ _, 0, rfl⟩
  case round =>
    obtain ⟨i, rfl, hi1, hi2, hno, nd, rfl⟩ := hrel
    have HNO := Lib.hid hno
    clear hno
    by_cases hi0 : 0 ≤ i
    · obtain ⟨j, rfl⟩ := Int.eq_ofNat_of_zero_le hi0
      obtain ⟨x, hx⟩ : ∃ x, s.L[j]? = some x := ⟨_, List.getElem?_eq_getElem (by omega)⟩
      obtain ⟨g, o, rfl, d0, d1, hg⟩ := H2.out.two rfl j x hx
      obtain ⟨x1, x2⟩ := x
      have he := fun w => run_eqF (x1, x2) (f1, f2) w
      obtain ⟨q, hq⟩ : ∃ q, decide ((x1, x2) = (f1, f2)) = q := ⟨_, rfl⟩
      simp only [hq] at he
      simp only at d0 d1
      have HQ := Lib.hid hq
      have HXX := Lib.hid hx
      clear hq hx
      cases q with
      | false =>
        go_wp2_with fail
        go_quiet (fail)
        go_wp2_with fail
        go_roundw
        case rel => exact ⟨(j : Int) - 1, rfl, by omega, by omega, noneFrom_down _ _ _ _ _ HXX.out HQ.out HNO.out, _, rfl⟩
        case measure => simp [intOf]
      | true =>
        go_wp2_with fail
        go_quiet (fail)
        go_wp2_with fail
        refine (HFA.out _).mono ?_
        rintro e w' ⟨rfl, m, rfl⟩
        go_wp2_with fail
        go_ret3
        have hw := noneFrom_here _ _ _ _ _ HXX.out HQ.out HNO.out
        have hfd : s.find_ (f1, f2) = (((b + j : Nat) : Int), true, true) := by
          unfold TS.find_ whole
          rw [HB.out, hw]
        refine ⟨by rw [hfd]; simp [found], ?_⟩
        exact (HT.out.drewN _)
    · obtain rfl : i = -1 := by omega
      have hw := noneFrom_all _ _ _ _ rfl HNO.out
      have HW := Lib.hid hw
      clear hw hi0 hi1 hi2
      go_wp2_with fail
      go_loopw [8] (fun s8 wr => ∃ i : Int, s8 = .int .i64 i ∧ -1 ≤ i ∧ i < s.L.length ∧ noneFrom (fun y => decide (y.1 = f1)) s.L b i ∧ ∃ n, wr = W.drewN n) (fun s8 _ => (intOf s8 + 1).toNat)
      case atStart => exact ⟨_, rfl, by omega, by omega, noneFrom_end _ _ _, nd, rfl⟩
      case round =>
        obtain ⟨i, rfl, hi1, hi2, hno, nd2, rfl⟩ := hrel
        have HNO2 := Lib.hid hno
        clear hno
        by_cases hi0 : 0 ≤ i
        · obtain ⟨j, rfl⟩ := Int.eq_ofNat_of_zero_le hi0
          obtain ⟨x, hx⟩ : ∃ x, s.L[j]? = some x := ⟨_, List.getElem?_eq_getElem (by omega)⟩
          obtain ⟨g, o, rfl, d0, d1, hg⟩ := H2.out.two rfl j x hx
          obtain ⟨x1, x2⟩ := x
          simp only at d0 d1
          have HXX := Lib.hid hx
          clear hx
          go_wp2_with fail
          go_quiet (fail)
          go_wp2_with fail
          · have hq : (x1.toList == f1.toList) = true := by assumption
            have hp : decide (x1 = f1) = true := by simpa [bl_inj] using hq
            refine (HFA.out _).mono ?_
            rintro e w' ⟨rfl, m, rfl⟩
            go_wp2_with fail
            go_ret3
            have hn := noneFrom_here (fun y : Fld => decide (y.1 = f1)) _ _ _ _ HXX.out hp HNO2.out
            have hfd : s.find_ (f1, f2) = (((b + j : Nat) : Int), true, false) := by
              unfold TS.find_ whole names
              rw [HB.out, HW.out]
              simp only [hn]
            refine ⟨by rw [hfd]; simp [found], ?_⟩
            exact (HT.out.drewN _)
          · have hq : (x1.toList == f1.toList) = false := by assumption
            have hp : decide (x1 = f1) = false := by
              have : x1.toList ≠ f1.toList := by simpa using hq
              simpa [bl_inj] using this
            go_roundw
            case rel => exact ⟨(j : Int) - 1, rfl, by omega, by omega, noneFrom_down _ _ _ _ _ HXX.out hp HNO2.out, _, rfl⟩
            case measure => simp [intOf]
        · obtain rfl : i = -1 := by omega
          have hn := noneFrom_all _ _ _ _ rfl HNO2.out
          have HN2 := Lib.hid hn
          clear hn hi0 hi1 hi2
          go_wp2_with fail
          go_ret3
          have hfd : s.find_ (f1, f2) = (0, false, false) := by
            unfold TS.find_ whole names
            rw [HB.out, HW.out, HN2.out]
          refine ⟨by rw [hfd]; simp [found], ?_⟩
          exact (HT.out.drewN _)
end Go.Proofs.Ytfkmcbkhodppmaa
