/- The contract of the document's table's fit. Conditions: the sizes are no more than 2^40. -/
import Derived.Test.YtfkmcbkhodppmaaD
namespace Go.Proofs.Ytfkmcbkhodppmaa
open Go.RowKit Go.Maps
set_option linter.unusedVariables false

theorem sl_empty (w : World) (e : TypeId) (sz g o : Nat) : Sl w e sz (.slice (some ⟨g, o, none⟩) 0 0) 0 [] := ⟨by simp, .inr ⟨g, o, 0, rfl, Nat.le_refl _, Nat.zero_le _, fun h => absurd h (by omega)⟩⟩
/-- Where a slice lies behind its first element. -/
def behind (g o c : Nat) : Nat := if c = 1 then o else o + 2
theorem Sl.tail {w : World} {g o n c : Nat} {L : List Fld} (h : Sl w 26 2 (.slice (some ⟨g, o, none⟩) n c) n (cf L)) (hn : L.length = n) (h0 : 0 < n) :
    Sl w 26 2 (.slice (some ⟨g, behind g o c, none⟩) (n - 1) (c - 1)) (n - 1) (cf (L.drop 1)) := by
  have hc : n ≤ c := by
    rcases h.cases with ⟨h1, _⟩ | ⟨g', o', c', h1, h2, _⟩
    · simp at h1
    · simp at h1
      omega
  unfold behind
  by_cases h1 : c = 1
  · subst h1
    obtain rfl : n = 1 := by omega
    have : L.drop 1 = [] := List.eq_nil_of_length_eq_zero (by simp [hn])
    rw [if_pos rfl, this]
    exact sl_empty _ _ _ _ _
  · rw [if_neg h1]
    have := h.part 1 (n - 1) (c - 1) (by omega) (by omega) (by omega)
    rw [cf_drop] at this
    have e : (cf (L.drop 1)).take ((n - 1) * 2) = cf (L.drop 1) := List.take_of_length_le (by rw [cf_len]; simp [hn])
    rw [e] at this
    exact this
theorem tail_run {w : World} {g o n c : Nat} (h0 : 0 < n) (hc : n ≤ c) :
    (Instr.slice 23 (.slice (some ⟨g, o, none⟩) n c) (some (.int .i64 1)) none none).run Try.prog w = .ok (.slice (some ⟨g, behind g o c, none⟩) (n - 1) (c - 1)) w := by
  have hu : Try.prog.underlying 23 = some (.slice 26) := Try.underlying23
  obtain ⟨i0, hi, hz0, hz1, hz2⟩ := info_parts info26
  unfold behind
  have h1 : (1 : Int) ≤ (n : Int) := by omega
  simp [Instr.slice, run_underlying hu, Instr.sliceBounds, Instr.sliceBound, sizeOf, typeInfo, hi, asIntOf, hz1, h1]
  split <;> simp [Addr.add]

theorem IsRef.tail {w : World} {t cap cnt g o n c : Nat} {L : List Fld} (h1 : IsBlk w t [.slice (some ⟨g, o, none⟩) n c, .int .i64 cap, .int .u64 cnt] 58) (h2 : Sl w 26 2 (.slice (some ⟨g, o, none⟩) n c) n (cf L)) (hn : L.length = n) (h0 : 0 < n)
    (h5 : t ∉ own (.slice (some ⟨g, o, none⟩) n c)) (h6 : n ≤ cnt) :
    ∃ F', IsRef (w.setCell ⟨t, 0, none⟩ (.slice (some ⟨g, behind g o c, none⟩) (n - 1) (c - 1))) t F' ⟨L.drop 1, cnt⟩ cap ∧ ∀ f ∈ F', f ∈ t :: own (.slice (some ⟨g, o, none⟩) n c) := by
  have hsub : ∀ f ∈ own (.slice (some ⟨g, behind g o c, none⟩) (n - 1) (c - 1)), f ∈ own (.slice (some ⟨g, o, none⟩) n c) := own_sub (by omega)
  have hl : (L.drop 1).length = n - 1 := by simp [hn]
  refine ⟨t :: own (.slice (some ⟨g, behind g o c, none⟩) (n - 1) (c - 1)), ⟨some ⟨g, behind g o c, none⟩, c - 1, ?_, ?_, by simp only [hl], fun hm => ?_, ?_⟩, fun f hf => ?_⟩
  · simp only [hl]
    exact h1.set 0 _
  · simp only [hl]
    exact (h2.tail hn h0).touch ((Touch.refl [t] _).set (p := ⟨t, 0, none⟩) (.inl (by simp)) _) (fun f hf hm => by simp at hm; exact h5 (hm ▸ hsub f hf))
  · simp only [hl] at hm
    exact h5 (hsub _ hm)
  · simp only [hl]
    omega
  · rcases List.mem_cons.1 hf with rfl | hf
    · simp
    · exact List.mem_cons_of_mem _ (hsub f hf)

set_option maxRecDepth 100000 in
set_option maxHeartbeats 1000000 in
theorem refFit_any {w : World} {t cap : Nat} {F : List Nat} {s : TS} (h : IsRef w t F s cap) (m : Int) (hm : -1099511627776 ≤ m ∧ m ≤ 1099511627776) (hz : szL s.L ≤ 1099511627776) :
    Calls Try.prog 24 #[.pointer (some ⟨t, 0, none⟩), .int .i64 m] w fun e w' => e = .returned (.int .i64 (fitN s.L m)) ∧ ∃ F', IsRef w' t F' ⟨fitL s.L m, s.cnt⟩ cap ∧ Touch F w w' ∧ ∀ g ∈ F', g ∈ F := by
  obtain ⟨L, cnt⟩ := s
  simp only at hz ⊢
  have H := Lib.hid h
  have HZ := Lib.hid hz
  clear h hz
  go_enter Try.func24, Try.ntmps24
  go_wp2_with fail
  go_loopw [5] (fun i wr => ∃ (k : Nat) (F' : List Nat), k ≤ L.length ∧ i = .int .i64 (k : Int) ∧ fitN L m = k + fitN (L.drop k) m ∧ IsRef wr t F' ⟨L.drop k, cnt⟩ cap ∧ Touch F w wr ∧ ∀ g ∈ F', g ∈ F) (fun i _ => L.length - (intOf i).toNat)
  case atStart => exact ⟨0, F, by omega, rfl, by simp, by simpa using H.out, Touch.refl _ _, fun g hg => hg⟩
  case round =>
    obtain ⟨k, F', hk, rfl, hf, hR, hT, hF⟩ := hrel
    have HF := Lib.hid hf
    have HFF := Lib.hid hF
    have HT := Lib.hid hT
    clear hf hF hT
    have hlen : (L.drop k).length = L.length - k := by simp
    have hszd : szL (L.drop k) ≤ 1099511627776 := Nat.le_trans (szL_drop_le L k) HZ.out
    have hl40 : (L.drop k).length * 32 ≤ szL (L.drop k) := szL_len _
    obtain ⟨M, hM⟩ : ∃ M, L.drop k = M := ⟨_, rfl⟩
    have hd : L.drop (k + 1) = M.drop 1 := by rw [← hM, List.drop_drop]
    rw [hM] at hlen hR hszd hl40
    have HLEN := Lib.hid hlen
    have HMM := Lib.hid hM
    have HD := Lib.hid hd
    obtain ⟨a, c, h1, h2, h3, h5, h6⟩ := hR
    simp only at h1 h2 h3 h5 h6
    have c0 := h1.cell 0
    have cl := h1.lt
    have f0 := h1.frozen 0
    simp only [List.getElem?_cons_zero] at c0
    have H1 := Lib.hid h1
    have H2 := Lib.hid h2
    have H3 := Lib.hid h3
    have H5 := Lib.hid h5
    have H6 := Lib.hid h6
    clear hM hd h1 h2 h3 h5 h6
    by_cases hgo : m < (szL M : Int) ∧ 0 < M.length
    · obtain ⟨hgo, hpos⟩ := hgo
      obtain ⟨y, hy⟩ : ∃ y M', M = y :: M' := by
        cases M with
        | nil => simp at hpos
        | cons y M' => exact ⟨y, M', rfl⟩
      obtain ⟨M', hy⟩ := hy
      have HY := Lib.hid hy
      obtain ⟨g, o, rfl⟩ := H2.out.rd.some hpos
      have hc : M.length ≤ c := by
        rcases H2.out.cases with ⟨h1, _⟩ | ⟨g', o', c', h1, h2, _⟩
        · simp at h1
        · simp at h1
          omega
      clear hy hlen
      have hb0 : (1 : Int) ≤ (M.length : Int) := by omega
      have hb1 : (0 : Int) < (M.length : Int) := by omega
      have hb2 : decide (m < (szL M : Int)) = true := by simpa using hgo
      have hb3 : (k : Int) + 1 ≤ 1099511627776 := by have := HZ.out; have := szL_len L; omega
      have hkl : k + 1 ≤ L.length := by have := HLEN.out; omega
      have HSM := Lib.hid (show szL M ≤ 1152921504606846976 ∧ M.length ≤ 1099511627776 from by omega)
      clear hszd hl40
      by_cases hc1 : c = 1
      · obtain rfl : c = 1 := hc1
        go_wp2_with fail
        refine (refSize_any wr _ M H2.out.rd HSM.out.1 HSM.out.2).mono ?_
        rintro e w1 ⟨rfl, n, rfl⟩
        go_wp2_with fail
        go_roundw
        case rel =>
          obtain ⟨F2, r1, r2⟩ := IsRef.tail (H1.out.drewN n) (H2.out.touch ((Touch.refl [] _).drewN n) (by simp)) rfl hpos H5.out H6.out
          have hM1 : M.length = 1 := by omega
          have hF := H3.out
          have htF : t ∈ F := HFF.out t (by rw [hF]; simp)
          refine ⟨k + 1, F2, hkl, by go_num, ?_, ?_, ?_, fun f hf => HFF.out f (by rw [hF]; exact r2 f hf)⟩
          · rw [HF.out, HMM.out, fitN_go M m y M' HY.out hgo, HD.out, HY.out]
            simp
            omega
          · rw [HD.out]
            simp only [hM1, behind] at r1
            exact r1
          · exact (HT.out.drewN n).trans ((Touch.refl [t] _).set (p := ⟨t, 0, none⟩) (.inl (by simp)) _) (fun j hj => .inl (by simp at hj; exact hj ▸ htF))
        case measure => simp [intOf]; omega
      · go_wp2_with fail
        refine (refSize_any wr _ M H2.out.rd HSM.out.1 HSM.out.2).mono ?_
        rintro e w1 ⟨rfl, n, rfl⟩
        go_wp2_with fail
        go_roundw
        case rel =>
          obtain ⟨F2, r1, r2⟩ := IsRef.tail (H1.out.drewN n) (H2.out.touch ((Touch.refl [] _).drewN n) (by simp)) rfl hpos H5.out H6.out
          have hM1 : ¬ c = 1 := hc1
          have hF := H3.out
          have htF : t ∈ F := HFF.out t (by rw [hF]; simp)
          refine ⟨k + 1, F2, hkl, by go_num, ?_, ?_, ?_, fun f hf => HFF.out f (by rw [hF]; exact r2 f hf)⟩
          · rw [HF.out, HMM.out, fitN_go M m y M' HY.out hgo, HD.out, HY.out]
            simp
            omega
          · rw [HD.out]
            rw [behind, if_neg hM1] at r1
            exact r1
          · exact (HT.out.drewN n).trans ((Touch.refl [t] _).set (p := ⟨t, 0, none⟩) (.inl (by simp)) _) (fun j hj => .inl (by simp at hj; exact hj ▸ htF))
        case measure => simp [intOf]; omega
    · have hend : fitN M m = 0 := by
        by_cases h0 : m < (szL M : Int)
        · have : M = [] := List.eq_nil_of_length_eq_zero (by omega)
          rw [this]; rfl
        · exact fitN_stop M m h0
      have hfin : fitN L m = k := by rw [HF.out, HMM.out, hend]; omega
      have hfl : fitL L m = M := by unfold fitL; rw [hfin]; exact HMM.out
      have hend2 : M.length = 0 ∨ (0 < M.length ∧ ¬ m < (szL M : Int)) := by omega
      have HSM := Lib.hid (show szL M ≤ 1152921504606846976 ∧ M.length ≤ 1099511627776 from by omega)
      have HFIN := Lib.hid hfin
      have HFL := Lib.hid hfl
      clear hgo hend hszd hl40 hfin hfl hlen
      rcases hend2 with h0 | ⟨hpos, hno⟩
      · have hb1 : decide (0 < M.length) = false := by simp; exact List.eq_nil_of_length_eq_zero h0
        clear h0
        go_wp2_with fail
        go_ret
        exact ⟨ret_i (by rw [HFIN.out]), F', by rw [HFL.out]; exact ⟨a, c, H1.out, H2.out, H3.out, H5.out, H6.out⟩, HT.out, HFF.out⟩
      · have hb1 : (0 : Int) < (M.length : Int) := by omega
        have hb2 : decide (m < (szL M : Int)) = false := by simpa using hno
        go_wp2_with fail
        refine (refSize_any wr _ M H2.out.rd HSM.out.1 HSM.out.2).mono ?_
        rintro e w1 ⟨rfl, n, rfl⟩
        go_wp2_with fail
        go_ret
        exact ⟨ret_i (by rw [HFIN.out]), F', by rw [HFL.out]; exact ⟨a, c, H1.out.drewN n, H2.out.touch ((Touch.refl [] _).drewN n) (by simp), H3.out, H5.out, H6.out⟩, HT.out.drewN n, HFF.out⟩
end Go.Proofs.Ytfkmcbkhodppmaa
