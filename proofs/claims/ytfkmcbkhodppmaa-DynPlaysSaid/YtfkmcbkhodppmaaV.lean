/- The contract of alike: the program's table and the document's, when they hold the same. Conditions: the sizes are no more than 2^40. -/
import Derived.Test.YtfkmcbkhodppmaaU
namespace Go.Proofs.Ytfkmcbkhodppmaa
open Go.RowKit Go.Maps
set_option linter.unusedVariables false

theorem first_t {w : World} {t cap : Nat} {F : List Nat} {s : TS} (h : IsRef w t F s cap) (hc : s.cnt ≤ 1099511627776) (b : Nat) (hb : s.first = b) :
    Calls Try.prog 29 #[.pointer (some ⟨t, 0, none⟩)] w fun e w' => e = .returned (.int .u64 b) ∧ Touch [] w w' := by
  subst hb
  refine (refFirst_any h hc).mono ?_
  rintro e w' ⟨rfl, n, rfl⟩
  exact ⟨rfl, (Touch.refl [] _).drewN n⟩

set_option maxRecDepth 100000 in
set_option maxHeartbeats 8000000 in
theorem alike_any {w : World} {t r cap : Nat} {F G : List Nat} {s : TS} (hT : IsTab w t F s cap) (hR : IsRef w r G s cap) (f : Fld) (hf : OkW f) (a : Int) (ha : 0 ≤ a ∧ a ≤ 18446744073709551615) (hc : s.cnt ≤ 549755813888) (hz : szL s.L ≤ 1099511627776) :
    Calls Try.prog 13 #[.pointer (some ⟨t, 0, none⟩), .pointer (some ⟨r, 0, none⟩), .agg #[.string f.1, .string f.2], .int .u64 a] w fun e w' => e = .returned (.bool true) ∧ Touch [] w w' := by
  obtain ⟨f1, f2⟩ := f
  have hc40 : s.cnt ≤ 1099511627776 := by omega
  have HC40 := Lib.hid hc40
  have HF := Lib.hid hf
  have HA := Lib.hid ha
  have HZ := Lib.hid (show szL s.L ≤ 1152921504606846976 by omega)
  have hlen := szL_len s.L
  have hll : (s.L.length : Int) ≤ 1099511627776 := by omega
  have HLL := Lib.hid (show s.L.length ≤ 1099511627776 by omega)
  have HT := Lib.hid (hT.keep ((Touch.refl [] w).alloc (.cells #[.string f1, .string f2] 26)))
  have HR := Lib.hid (hR.keep ((Touch.refl [] w).alloc (.cells #[.string f1, .string f2] 26)))
  have HW := Lib.hid ((Touch.refl [] w).alloc (.cells #[.string f1, .string f2] 26))
  have HI := Lib.hid (IsBlk.new w [.string f1, .string f2] 26)
  obtain ⟨b, hb⟩ : ∃ b, s.first = b := ⟨_, rfl⟩
  have hbb : (b : Int) + (s.L.length : Int) ≤ 1099511627776 := by
    obtain ⟨_, _, _, _, _, _, h6⟩ := hR
    unfold TS.first at hb
    omega
  have HB := Lib.hid hb
  clear hT hR hf ha hz hc hc40 hlen hb
  go_enter Try.func13, Try.ntmps13
  go_wp2_with fail
  generalize w.alloc (.cells #[.string f1, .string f2] 26) = W at *
  generalize w.heap.size = p at *
  obtain ⟨ra, rc, h1, h2, hG, h5, h6⟩ := HR.out
  have c0 := h1.cell 0
  have c1 := h1.cell 1
  have c2 := h1.cell 2
  have i0 := HI.out.cell 0
  have i1 := HI.out.cell 1
  have hrl := h1.lt
  have hpl := HI.out.lt
  simp only [List.getElem?_cons_zero, List.getElem?_cons_succ] at c0 c1 c2 i0 i1
  have H1 := Lib.hid h1
  have H2 := Lib.hid h2
  clear h1 h2 hG h5 h6
  go_quiet ((first | (go_at_call 15; exact Calls.quiet_of_same ((tabSize_any (HT.out.keep ((Touch.refl [] _).drewN _))).mono fun _ _ h => ⟨h.1, h.2.symm⟩)) | (go_at_call 17; exact Calls.quiet_of (refSize_any _ _ s.L (H2.out.rd.touch ((Touch.refl [] _).drewN _) (by simp)) HZ.out HLL.out)) | (go_at_call 18; exact Calls.quiet_of_same ((cap_any (HT.out.keep ((Touch.refl [] _).drewN _))).mono fun _ _ h => ⟨h.1, h.2.symm⟩)) | (go_at_call 14; exact Calls.quiet_of_same ((len_any (HT.out.keep ((Touch.refl [] _).drewN _))).mono fun _ _ h => ⟨h.1, h.2.symm⟩)) | (go_at_call 16; exact Calls.quiet_of_same ((count_any (HT.out.keep ((Touch.refl [] _).drewN _))).mono fun _ _ h => ⟨h.1, h.2.symm⟩))))
  have HT := Lib.hid (HT.out.keep ((Touch.refl [] _).drewN nq))
  have HR := Lib.hid (HR.out.keep ((Touch.refl [] _).drewN nq))
  have HW := Lib.hid (HW.out.drewN nq)
  have HI := Lib.hid (HI.out.drewN nq)
  have H1 := Lib.hid (H1.out.drewN nq)
  clear c0 c1 c2 i0 i1 hrl hpl H2
  generalize W.drewN nq = V at *
  go_wp2_with fail
  go_loopw [9] (fun i wr => ∃ k : Nat, k ≤ s.L.length + 1 ∧ i = .int .i64 (k : Int) ∧ Touch [] V wr) (fun i _ => s.L.length + 1 - (intOf i).toNat)
  case atStart => exact ⟨0, by omega, rfl, Touch.refl _ _⟩
  case round =>
    obtain ⟨k, hk, rfl, hTr⟩ := hrel
    have T0 := Lib.hid hTr
    have c0 := (H1.out.touch hTr (by simp)).cell 0
    have hrl := (H1.out.touch hTr (by simp)).lt
    simp only [List.getElem?_cons_zero] at c0
    clear hTr
    by_cases hkl : k ≤ s.L.length
    · have hk40 : (k : Int) ≤ 1099511627776 := by omega
      have hbk : (b : Int) + (k : Int) ≤ 1099511627776 := by omega
      have hb0 : (0 : Int) ≤ (b : Int) := by omega
      obtain ⟨z1, z2, ok1, hz⟩ : ∃ z1 z2 ok, fopt (s.new_ k) = .tuple #[.agg #[.string z1, .string z2], .bool ok] := ⟨_, _, _, rfl⟩
      obtain ⟨y1, y2, ok2, hy⟩ : ∃ z1 z2 ok, fopt (s.at_ (b + k)) = .tuple #[.agg #[.string z1, .string z2], .bool ok] := ⟨_, _, _, rfl⟩
      have hez : ∀ w, (Op.equalIn 10000 26 (.agg #[.string z1, .string z2]) (.agg #[.string z1, .string z2])).run Try.prog w = .ok true w := fun w => by have := run_eqF (z1, z2) (z1, z2) w; simpa using this
      have hey : ∀ w, (Op.equalIn 10000 26 (.agg #[.string y1, .string y2]) (.agg #[.string y1, .string y2])).run Try.prog w = .ok true w := fun w => by have := run_eqF (y1, y2) (y1, y2) w; simpa using this
      have C22 := Lib.hid (fun (w' : World) (h : Touch [] V w') => by have := newest_any (HT.out.keep h) HC40.out (k : Int) (by omega) _ rfl; rw [Int.toNat_natCast, hz] at this; exact this)
      have C28 := Lib.hid (fun (w' : World) (h : Touch [] V w') => by have := refNewest_any (HR.out.keep h) HC40.out (k : Int) (by omega) _ rfl; rw [Int.toNat_natCast, hz] at this; exact this)
      have C19 := Lib.hid (fun (w' : World) (h : Touch [] V w') => by have := at_any (HT.out.keep h) HC40.out ((b : Int) + (k : Int)) (by omega) _ rfl; rw [show ((b : Int) + (k : Int)).toNat = b + k from by omega, hy] at this; exact this)
      have C30 := Lib.hid (fun (w' : World) (h : Touch [] V w') => by have := abs_any (HR.out.keep h) HC40.out ((b : Int) + (k : Int)) (by omega) _ rfl; rw [show ((b : Int) + (k : Int)).toNat = b + k from by omega, hy] at this; exact this)
      have C29 := Lib.hid (fun (w' : World) (h : Touch [] V w') => first_t (HR.out.keep h) HC40.out b HB.out)
      clear hz hy
      go_wp2_with fail
      refine (C22.out _ T0.out).mono ?_
      rintro e w1 ⟨rfl, hT1⟩
      have T1 := Lib.hid (T0.out.trans hT1 (by simp))
      clear hT1
      go_wp2_with fail
      refine (C28.out _ (T1.out.alloc _)).mono ?_
      rintro e w2 ⟨rfl, hT2⟩
      have T2 := Lib.hid ((T1.out.alloc _).trans hT2 (by simp))
      have B0_2 := Lib.hid ((IsBlk.new w1 [.string z1, .string z2] 26).touch hT2 (by simp))
      clear hT2
      go_wp2_with fail
      refine (C29.out _ (T2.out.alloc _)).mono ?_
      rintro e w3 ⟨rfl, hT3⟩
      have T3 := Lib.hid ((T2.out.alloc _).trans hT3 (by simp))
      have B0_3 := Lib.hid ((B0_2.out.alloc _).touch hT3 (by simp))
      have B1_3 := Lib.hid ((IsBlk.new w2 [.string z1, .string z2] 26).touch hT3 (by simp))
      clear hT3
      go_wp2_with fail
      refine (C19.out _ T3.out).mono ?_
      rintro e w4 ⟨rfl, hT4⟩
      have T4 := Lib.hid (T3.out.trans hT4 (by simp))
      have B0_4 := Lib.hid (B0_3.out.touch hT4 (by simp))
      have B1_4 := Lib.hid (B1_3.out.touch hT4 (by simp))
      clear hT4
      go_wp2_with fail
      refine (C29.out _ (T4.out.alloc _)).mono ?_
      rintro e w5 ⟨rfl, hT5⟩
      have T5 := Lib.hid ((T4.out.alloc _).trans hT5 (by simp))
      have B0_5 := Lib.hid ((B0_4.out.alloc _).touch hT5 (by simp))
      have B1_5 := Lib.hid ((B1_4.out.alloc _).touch hT5 (by simp))
      have B2_5 := Lib.hid ((IsBlk.new w4 [.string y1, .string y2] 26).touch hT5 (by simp))
      clear hT5
      go_wp2_with fail
      refine (C30.out _ T5.out).mono ?_
      rintro e w6 ⟨rfl, hT6⟩
      have T6 := Lib.hid (T5.out.trans hT6 (by simp))
      have B0_6 := Lib.hid (B0_5.out.touch hT6 (by simp))
      have B1_6 := Lib.hid (B1_5.out.touch hT6 (by simp))
      have B2_6 := Lib.hid (B2_5.out.touch hT6 (by simp))
      clear hT6
      have b00 := B0_6.out.cell 0
      have b01 := B0_6.out.cell 1
      have bl0 := B0_6.out.lt
      have b10 := B1_6.out.cell 0
      have b11 := B1_6.out.cell 1
      have bl1 := B1_6.out.lt
      have b20 := B2_6.out.cell 0
      have b21 := B2_6.out.cell 1
      have bl2 := B2_6.out.lt
      simp only [List.getElem?_cons_zero, List.getElem?_cons_succ] at b00 b01 b10 b11 b20 b21
      go_wp2_with fail
      go_roundw
      case rel => exact ⟨k + 1, by omega, by go_num, T6.out.alloc _⟩
      case measure => simp [intOf]; omega
    · have i0 := (HI.out.touch T0.out (by simp)).cell 0
      have i1 := (HI.out.touch T0.out (by simp)).cell 1
      have hpl := (HI.out.touch T0.out (by simp)).lt
      simp only [List.getElem?_cons_zero, List.getElem?_cons_succ] at i0 i1
      have HI := Lib.hid (HI.out.touch T0.out (by simp))
      obtain ⟨y1, y2, ok2, hy⟩ : ∃ z1 z2 ok, fopt (s.at_ a.toNat) = .tuple #[.agg #[.string z1, .string z2], .bool ok] := ⟨_, _, _, rfl⟩
      obtain ⟨n1, g1, g2, hfd⟩ : ∃ n1 g1 g2, found (s.find_ (f1, f2)) = .tuple #[.int .u64 n1, .bool g1, .bool g2] := ⟨_, _, _, rfl⟩
      have hey : ∀ w, (Op.equalIn 10000 26 (.agg #[.string y1, .string y2]) (.agg #[.string y1, .string y2])).run Try.prog w = .ok true w := fun w => by have := run_eqF (y1, y2) (y1, y2) w; simpa using this
      have C19 := Lib.hid (fun (w' : World) (h : Touch [] V w') => by have := at_any (HT.out.keep h) HC40.out a HA.out.1 _ rfl; rw [hy] at this; exact this)
      have C30 := Lib.hid (fun (w' : World) (h : Touch [] V w') => by have := abs_any (HR.out.keep h) HC40.out a HA.out.1 _ rfl; rw [hy] at this; exact this)
      have C23 := Lib.hid (fun (w' : World) (h : Touch [] V w') => by have := find_any (HT.out.keep h) (f1, f2) HF.out; rw [hfd] at this; exact this)
      have C31 := Lib.hid (fun (w' : World) (h : Touch [] V w') => by have := refFind_any (HR.out.keep h) (f1, f2) HC40.out; rw [hfd] at this; exact this)
      clear hy hfd
      have B0_0 := HI
      go_wp2_with fail
      refine (C19.out _ T0.out).mono ?_
      rintro e w1 ⟨rfl, hT1⟩
      have T1 := Lib.hid (T0.out.trans hT1 (by simp))
      have B0_1 := Lib.hid (B0_0.out.touch hT1 (by simp))
      clear hT1 i0 i1 hpl
      have i0 := B0_1.out.cell 0
      have i1 := B0_1.out.cell 1
      have hpl := B0_1.out.lt
      simp only [List.getElem?_cons_zero, List.getElem?_cons_succ] at i0 i1
      go_wp2_with fail
      refine (C30.out _ (T1.out.alloc _)).mono ?_
      rintro e w2 ⟨rfl, hT2⟩
      have T2 := Lib.hid ((T1.out.alloc _).trans hT2 (by simp))
      have B0_2 := Lib.hid ((B0_1.out.alloc _).touch hT2 (by simp))
      have B1_2 := Lib.hid ((IsBlk.new w1 [.string y1, .string y2] 26).touch hT2 (by simp))
      clear hT2 i0 i1 hpl
      have i0 := B0_2.out.cell 0
      have i1 := B0_2.out.cell 1
      have hpl := B0_2.out.lt
      simp only [List.getElem?_cons_zero, List.getElem?_cons_succ] at i0 i1
      go_wp2_with fail
      refine (C23.out _ (T2.out.alloc _)).mono ?_
      rintro e w3 ⟨rfl, hT3⟩
      have T3 := Lib.hid ((T2.out.alloc _).trans hT3 (by simp))
      have B0_3 := Lib.hid ((B0_2.out.alloc _).touch hT3 (by simp))
      have B1_3 := Lib.hid ((B1_2.out.alloc _).touch hT3 (by simp))
      have B2_3 := Lib.hid ((IsBlk.new w2 [.string y1, .string y2] 26).touch hT3 (by simp))
      clear hT3 i0 i1 hpl
      have i0 := B0_3.out.cell 0
      have i1 := B0_3.out.cell 1
      have hpl := B0_3.out.lt
      simp only [List.getElem?_cons_zero, List.getElem?_cons_succ] at i0 i1
      go_wp2_with fail
      refine (C31.out _ T3.out).mono ?_
      rintro e w4 ⟨rfl, hT4⟩
      have T4 := Lib.hid (T3.out.trans hT4 (by simp))
      have B0_4 := Lib.hid (B0_3.out.touch hT4 (by simp))
      have B1_4 := Lib.hid (B1_3.out.touch hT4 (by simp))
      have B2_4 := Lib.hid (B2_3.out.touch hT4 (by simp))
      clear hT4 i0 i1 hpl
      have i0 := B0_4.out.cell 0
      have i1 := B0_4.out.cell 1
      have hpl := B0_4.out.lt
      simp only [List.getElem?_cons_zero, List.getElem?_cons_succ] at i0 i1
      have b10 := B1_4.out.cell 0
      have b11 := B1_4.out.cell 1
      have bl1 := B1_4.out.lt
      have b20 := B2_4.out.cell 0
      have b21 := B2_4.out.cell 1
      have bl2 := B2_4.out.lt
      simp only [List.getElem?_cons_zero, List.getElem?_cons_succ] at b10 b11 b20 b21
      go_wp2_with fail
      go_ret
      exact ⟨rfl, HW.out.trans T4.out (by simp)⟩
end Go.Proofs.Ytfkmcbkhodppmaa
