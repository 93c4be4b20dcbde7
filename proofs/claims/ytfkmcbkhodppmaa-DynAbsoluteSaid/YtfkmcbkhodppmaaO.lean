/- The contract of the program's table's Add. Conditions: the sizes are no more than 2^39. -/
import Derived.Test.YtfkmcbkhodppmaaN
namespace Go.Proofs.Ytfkmcbkhodppmaa
open Go.RowKit Go.Maps
set_option linter.unusedVariables false

theorem goneA_le (cap : Nat) : ∀ (l : List Fld) (s : TS), goneA cap s l + (addA cap s l).L.length ≤ s.L.length + l.length
  | [], s => by simp [goneA, addA]
  | x :: l, s => by
    have h1 := goneA_le cap l (add1 cap s x)
    have e : addA cap s (x :: l) = addA cap (add1 cap s x) l := rfl
    rw [goneA, e]
    have h2 : gone1 cap s x + (add1 cap s x).L.length ≤ s.L.length + 1 := by
      have h3 := fitL_len s.L ((cap : Int) - (sz x : Int))
      have h4 := fitN_le s.L ((cap : Int) - (sz x : Int))
      unfold gone1 add1
      split <;> simp <;> omega
    simp
    omega
theorem rd_at2 (w : World) (y1 y2 : ByteArray) {n : Nat} (hn : w.heap.size = n) : Rd (w.alloc (.cells #[.string y1, .string y2] 26)) 2 (.slice (some ⟨n, 0, none⟩) 1 1) 1 (cf [(y1, y2)]) := by
  subst hn
  exact new_rd2 w (y1, y2)
/-- The parts of the program's table, in the midst of Add. -/
def TabM (w : World) (t bw bn : Nat) (v : Value) (sv cnt cap : Nat) (L : List Fld) (mw mn : Nat) (fw : Fld → Option Int) (fn : ByteArray → Option Int) : Prop :=
  IsBlk w t [v, .int .u64 cnt, .int .i64 cap, .int .i64 sv, .map (some bw), .map (some bn)] 56 ∧ Sl w 26 2 v L.length (cf L) ∧ IsW w bw mw fw ∧ IsN w bn mn fn
/-- Behind Add's append. -/
def LongerT (w wx : World) (t bw bn p cap cnt sv m : Nat) (F : List Nat) (y : Fld) (L : List Fld) (fw : Fld → Option Int) (fn : ByteArray → Option Int) : Prop :=
  ∃ a c, TabM wx t bw bn (.slice a L.length c) sv cnt cap L m m fw fn ∧ Apart t bw bn (.slice a L.length c) ∧ (∀ g ∈ t :: bw :: bn :: own (.slice a L.length c), g ∈ F ∨ w.heap.size ≤ g) ∧ IsBlk wx p [.string y.1, .string y.2] 26 ∧ p ∉ t :: bw :: bn :: own (.slice a L.length c) ∧ Touch F w wx

theorem Touch.src {ks : List Nat} {w W w5 : World} (h : Touch [] w W) (_ : Touch ks W w5) : Touch [] w W := h
theorem tab_put {w wc W w5 : World} {t bw bn p cap cnt sv m : Nat} {F : List Nat} {v : Value} {M : List Fld} {y : Fld} {fw : Fld → Option Int} {fn : ByteArray → Option Int} {a2 : Option Addr} {c2 : Nat} (hP : TabP wc t bw bn v sv cnt cap M fw fn) (hA : Apart t bw bn v)
    (hF : ∀ g ∈ t :: bw :: bn :: own v, g ∈ F ∨ w.heap.size ≤ g) (hT : Touch F w wc) (hI : IsBlk wc p [.string y.1, .string y.2] 26) (hp : p ∉ t :: bw :: bn :: own v) (hW : Touch [] wc W) (hm : m = (M ++ [y]).length)
    (k1 : Sl w5 26 2 (.slice a2 m c2) m (cf M ++ cf [y])) (k2 : Touch (own v) W w5) (k3 : ∀ g ∈ own (.slice a2 m c2), g ∈ own v ∨ W.heap.size ≤ g) :
    LongerT w (w5.setCell ⟨t, 0, none⟩ (.slice a2 m c2)) t bw bn p cap cnt sv cnt F y (M ++ [y]) fw fn := by
  subst hm
  obtain ⟨a1, a2', a3, a4, a5, a6⟩ := hA
  have hs1 := hW.size
  have hs2 := hT.size
  have lt := hP.1.lt
  have lw := hP.2.2.1.lt
  have ln := hP.2.2.2.lt
  have lp := hI.lt
  have hT5 : Touch [t] w5 (w5.setCell ⟨t, 0, none⟩ (.slice a2 (M ++ [y]).length c2)) := (Touch.refl [t] _).set (p := ⟨t, 0, none⟩) (.inl (by simp)) _
  have hno : ∀ q, q < wc.heap.size → q ∉ own v → q ∉ own (.slice a2 (M ++ [y]).length c2) := fun q hq hv hm => (k3 q hm).elim hv (fun h => by omega)
  have n1 := hno t lt a4
  have n2 := hno bw lw a5
  have n3 := hno bn ln a6
  have hpv : p ∉ own v := fun hm => hp (by simp [hm])
  have n4 := hno p lp hpv
  have hpt : p ≠ t ∧ p ≠ bw ∧ p ≠ bn := by simp at hp; exact ⟨hp.1, hp.2.1, hp.2.2.1⟩
  refine ⟨a2, c2, ⟨((hP.1.touch hW (by simp)).touch k2 a4).set 0 _, ?_, ?_, ?_⟩, ⟨a1, a2', a3, n1, n2, n3⟩, fun g hg => ?_, ?_, ?_, ?_⟩
  · rw [cf_append]
    exact k1.touch hT5 (fun g hg hm => by simp at hm; exact n1 (hm ▸ hg))
  · exact ((hP.2.2.1.touch hW (by simp)).touch k2 a5).touch hT5 (by simpa using Ne.symm a1)
  · exact ((hP.2.2.2.touch hW (by simp)).touch k2 a6).touch hT5 (by simpa using Ne.symm a2')
  · simp only [List.mem_cons] at hg
    rcases hg with rfl | rfl | rfl | hg
    · exact hF _ (by simp)
    · exact hF _ (by simp)
    · exact hF _ (by simp)
    · rcases k3 g hg with h | h
      · exact hF g (by simp [h])
      · exact .inr (by omega)
  · exact ((hI.touch hW (by simp)).touch k2 hpv).touch hT5 (by simpa using hpt.1)
  · intro hm
    simp only [List.mem_cons] at hm
    rcases hm with h | h | h | h
    · exact hpt.1 h
    · exact hpt.2.1 h
    · exact hpt.2.2 h
    · exact n4 h
  · have h1 := (hT.trans hW (by simp)).trans k2 (fun g hg => hF g (by simp [hg]))
    exact h1.trans hT5 (fun g hg => by simp at hg; subst hg; exact hF _ (by simp))
theorem tab_done {w5 : World} {t bw bn cap cnt n1 b c : Nat} {a : Option Addr} {M : List Fld} {y : Fld} {cv : Int} (hB : IsBlk w5 t [.slice a (M ++ [y]).length c, .int .u64 cnt, .int .i64 cap, .int .i64 ((szL M + n1 : Nat) : Int), .map (some bw), .map (some bn)] 56)
    (hS : Sl w5 26 2 (.slice a (M ++ [y]).length c) (M ++ [y]).length (cf (M ++ [y]))) (hW : IsW w5 bw (cnt + 1) (updW (whole M b) y (some (cnt : Int)))) (hN : IsN w5 bn (cnt + 1) (updN (names M b) y.1 (some (cnt : Int))))
    (hA : Apart t bw bn (.slice a (M ++ [y]).length c)) (hb : b + M.length = cnt) (hn1 : sz y = n1) (hcv : cv = (cnt : Int) + 1) :
    IsTab (w5.setCell ⟨t, 1, none⟩ (.int .u64 cv)) t (t :: bw :: bn :: own (.slice a (M ++ [y]).length c)) ⟨M ++ [y], cnt + 1⟩ cap := by
  subst hcv
  obtain ⟨a1, a2, a3, a4, a5, a6⟩ := hA
  have hT : Touch [t] w5 (w5.setCell ⟨t, 1, none⟩ (.int .u64 ((cnt : Int) + 1))) := (Touch.refl [t] _).set (p := ⟨t, 1, none⟩) (.inl (by simp)) _
  have e1 : TS.first ⟨M ++ [y], cnt + 1⟩ = b := by simp only [TS.first, List.length_append, List.length_singleton]; omega
  have e2 : szL (M ++ [y]) = szL M + n1 := by rw [szL_append]; simp [szL, hn1]
  refine ⟨a, c, bw, bn, ?_, hS.touch hT (fun g hg hm => by simp at hm; exact a4 (hm ▸ hg)), ?_, ?_, rfl, ⟨a1, a2, a3, a4, a5, a6⟩, by simp; omega⟩
  · simp only [e2]
    exact hB.set 1 _
  · simp only [e1]
    rw [whole_snoc, hb]
    exact hW.touch hT (by simpa using Ne.symm a1)
  · simp only [e1]
    rw [names_snoc, hb]
    exact hN.touch hT (by simpa using Ne.symm a2)

set_option maxRecDepth 100000 in
set_option maxHeartbeats 8000000 in
theorem add_any {w : World} {t cap : Nat} {F : List Nat} {s : TS} (h : IsTab w t F s cap) (x : Value) (l : List Fld) (hx : Rd w 2 x l.length (cf l)) (hxo : ∀ g ∈ own x, g ∉ F) (hs : s.ok cap) (hcap : cap ≤ 549755813888)
    (hcn : s.cnt + l.length ≤ 549755813888) (hl : ∀ y ∈ l, sz y ≤ 549755813888) :
    Calls Try.prog 12 #[.pointer (some ⟨t, 0, none⟩), x] w fun e w' => e = .returned (.int .i64 (goneA cap s l)) ∧ ∃ F', IsTab w' t F' (addA cap s l) cap ∧ Touch F w w' ∧ ∀ g ∈ F', g ∈ F ∨ w.heap.size ≤ g := by
  obtain ⟨ax, cx, rfl⟩ := hx.form
  have H := Lib.hid h
  have HX := Lib.hid hx
  have HXO := Lib.hid hxo
  have HS := Lib.hid hs
  have HCN := Lib.hid hcn
  have HL := Lib.hid hl
  have hlb : (l.length : Int) ≤ 549755813888 := by omega
  clear h hx hxo hs hcn hl
  go_enter Try.func12, Try.ntmps12
  go_wp2_with fail
  go_loopw [5, 11] (fun i5 i wr => ∃ (k : Nat) (F' : List Nat), k ≤ l.length ∧ i = .int .i64 (k : Int) ∧ i5 = .int .i64 (goneA cap s (l.take k) : Int) ∧ IsTab wr t F' (addA cap s (l.take k)) cap ∧ Touch F w wr ∧ ∀ g ∈ F', g ∈ F ∨ w.heap.size ≤ g) (fun _ i _ => l.length - (intOf i).toNat)
  case atStart => exact ⟨0, F, by omega, rfl, rfl, by simpa [addA] using H.out, Touch.refl _ _, fun g hg => .inl hg⟩
  case round =>
    obtain ⟨k, F', hk, rfl, rfl, hR, hT, hF⟩ := hrel
    have HF := Lib.hid hF
    have HT := Lib.hid hT
    have hok := ok_addA (l.take k) HS.out
    have hgl := goneA_le cap (l.take k) s
    have htl : (l.take k).length = k := by simp; omega
    obtain ⟨s', hs'⟩ : ∃ s', addA cap s (l.take k) = s' := ⟨_, rfl⟩
    obtain ⟨gn, hgn⟩ : ∃ gn, goneA cap s (l.take k) = gn := ⟨_, rfl⟩
    rw [hs'] at hR hok hgl
    rw [hgn] at hgl ⊢
    rw [htl] at hok hgl
    have HSS := Lib.hid hs'
    have HGN := Lib.hid hgn
    have HR := Lib.hid hR
    have HOK := Lib.hid hok
    have hsl := HS.out.1
    have hcn := HCN.out
    have hgb : (gn : Int) ≤ 549755813888 := by omega
    clear hF hT hs' hgn hR hok htl hsl hcn
    by_cases hlt : k < l.length
    · obtain ⟨y, hy⟩ : ∃ y, l[k]? = some y := ⟨_, List.getElem?_eq_getElem hlt⟩
      have htk := addA_take cap s l k y hy
      have hgt := goneA_take cap s l k y hy
      rw [HSS.out] at htk hgt
      rw [HGN.out] at hgt
      have hyl := HL.out y (List.mem_of_getElem? hy)
      obtain ⟨g, o, rfl⟩ := HX.out.some (by omega)
      obtain ⟨d0, d1, hg⟩ := (HX.out.touch HT.out HXO.out).two rfl k y hy
      obtain ⟨y1, y2⟩ := y
      obtain ⟨n1, hn1⟩ : ∃ n, sz (y1, y2) = n := ⟨_, rfl⟩
      rw [hn1] at hyl
      have HG1 := Lib.hid (show gone1 cap s' (y1, y2) = fitN s'.L ((cap : Int) - (n1 : Int)) by rw [gone1, hn1])
      have HA1 := Lib.hid (show add1 cap s' (y1, y2) = (if n1 ≤ cap then ⟨fitL s'.L ((cap : Int) - (n1 : Int)) ++ [(y1, y2)], s'.cnt + 1⟩ else ⟨fitL s'.L ((cap : Int) - (n1 : Int)), s'.cnt⟩) by rw [add1, hn1])
      have HN := Lib.hid hn1
      have HTK := Lib.hid htk
      have HGT := Lib.hid hgt
      simp only at d0 d1
      have hk1 : (0 : Int) ≤ (k : Int) := by omega
      have hk2 : (k : Int) < (l.length : Int) := by omega
      have hfn := fitN_le s'.L ((cap : Int) - (n1 : Int))
      have hsb : szL s'.L ≤ 1099511627776 := by have := HOK.out.1.2; omega
      have hcb : s'.cnt < 1099511627776 := by have := HOK.out.2; have := HCN.out; omega
      have HSB := Lib.hid hsb
      have HCB := Lib.hid hcb
      have hfb : (gn : Int) + (fitN s'.L ((cap : Int) - (n1 : Int)) : Int) ≤ 1099511627776 := by have := HOK.out.1.1; have := HCN.out; have := HOK.out.2; omega
      have HRM := Lib.hid (show -1099511627776 ≤ (n1 : Int) ∧ (n1 : Int) ≤ 1099511627776 by omega)
      clear hy htk hgt hn1 hsb hcb hfn hgl
      go_wp2_with fail
      refine (fieldSize_one (y := (y1, y2)) (rd_at2 _ y1 y2 (by simp)) n1 HN.out (by omega)).mono ?_
      rintro e w2 ⟨rfl, hT2⟩
      have hTw2 : Touch [] wr w2 := Touch.trans (w := wr) (ks := []) (by (repeat (first | exact Touch.refl _ _ | refine Touch.drewN ?_ _ | refine Touch.drew ?_ | refine Touch.alloc ?_ _))) hT2 (by simp)
      have HR2 := Lib.hid (HR.out.keep hTw2)
      have HI2 := Lib.hid (((IsBlk.new wr [.string y1, .string y2] 26).alloc _).touch hT2 (by simp))
      have HTw2 := Lib.hid hTw2
      have hp : ∀ g ∈ F', g < wr.heap.size := HR.out.lt
      have HPF := Lib.hid (show wr.heap.size ∉ F' from fun hm => Nat.lt_irrefl _ (hp _ hm))
      obtain ⟨p, hpe⟩ : ∃ p, wr.heap.size = p := ⟨_, rfl⟩
      rw [hpe] at HPF HI2 ⊢
      have HPE := Lib.hid hpe
      clear hT2 hTw2 hp hpe d0 d1 hg
      go_wp2_with fail
      refine (fit_any HR2.out (n1 : Int) HRM.out (by omega) (Nat.le_of_lt HCB.out) HSB.out).mono ?_
      rintro e w3 ⟨rfl, F2, hR3, hT3, hF3⟩
      have HI3 := Lib.hid (HI2.out.touch hT3 (by simpa using HPF.out))
      have HR3 := Lib.hid hR3
      have HT3 := Lib.hid ((HT.out.trans HTw2.out (by simp)).trans hT3 (fun g hg => (HF.out g hg).imp id (fun h => h)))
      have HF3 := Lib.hid (show ∀ g ∈ F2, g ∈ F ∨ w.heap.size ≤ g from fun g hg => HF.out g (hF3 g hg))
      have HPF3 := Lib.hid (show p ∉ F2 from fun hm => HPF.out (hF3 _ hm))
      obtain ⟨M, hM⟩ : ∃ M, fitL s'.L ((cap : Int) - (n1 : Int)) = M := ⟨_, rfl⟩
      have HMM := Lib.hid hM
      rw [hM] at HR3
      obtain ⟨a, c, bw, bn, hP, hFe, hAp, h6⟩ := HR3.out.parts
      simp only at hP hFe hAp h6
      have c2 := hP.1.cell 2
      have htl := hP.1.lt
      simp only [List.getElem?_cons_zero, List.getElem?_cons_succ] at c2
      have HP := Lib.hid hP
      have HFE := Lib.hid hFe
      have HAP := Lib.hid hAp
      have H6 := Lib.hid h6
      clear hR3 hT3 hF3 hM hP hFe hAp h6
      by_cases hle : n1 ≤ cap
      · have hleb : decide ((cap : Int) < (n1 : Int)) = false := by simp; omega
        have c0 := HP.out.1.cell 0
        have f0 := HP.out.1.frozen 0
        have i0 := HI3.out.cell 0
        have i1 := HI3.out.cell 1
        have hpl := HI3.out.lt
        simp only [List.getElem?_cons_zero, List.getElem?_cons_succ] at c0 i0 i1
        have hML : szL M ≤ 1099511627776 := by rw [← HMM.out]; exact Nat.le_trans (szL_fitL_le _ _) HSB.out
        have hMS : szL M + n1 ≤ cap := by
          have := fitL_sz s'.L ((cap : Int) - (n1 : Int)) (by omega)
          rw [HMM.out] at this
          omega
        have hlen := szL_len M
        have HSM := Lib.hid (show M.length + 1 ≤ maxLen ∧ (M.length + 1) * 32 ≤ 140737488355328 by unfold maxLen; omega)
        obtain ⟨j0, hj, hy0, hy1, hy2⟩ := info_parts info26
        have HMS := Lib.hid hMS
        have hms2 : (szL M : Int) + (n1 : Int) ≤ 1099511627776 := by omega
        clear hML hlen hMS
        obtain ⟨b, hb⟩ : ∃ b, TS.first ⟨M, s'.cnt⟩ = b := ⟨_, rfl⟩
        have HP : Hid (TabP w3 t bw bn (.slice a M.length c) (szL M) s'.cnt cap M (whole M b) (names M b)) := Lib.hid (by rw [← hb]; exact HP.out)
        have HB := Lib.hid (show b + M.length = s'.cnt by have := H6.out; rw [← hb]; simp only [TS.first]; omega)
        clear hb
        go_wp2_with fail
        go_cut [] (fun wx => LongerT w wx t bw bn p cap s'.cnt (szL M) s'.cnt F (y1, y2) (M ++ [(y1, y2)]) (whole M b) (names M b))
        case first =>
          go_region_law (refine step_append_sl _ rfl (.tmp 33) (.tmp 35) 23 rfl 26 j0 (.agg #[.string ByteArray.empty, .string ByteArray.empty]) 2 32 Try.underlying23 hj hy0 hy1 hy2 rfl (by decide) (.slice a M.length c) M.length (cf M) (by simp [Act.eval]) (HP.out.2.1.touch (ks := []) (by (repeat (first | exact Touch.refl _ _ | refine Touch.drewN ?_ _ | refine Touch.drew ?_ | refine Touch.alloc ?_ _))) (by simp)) (.slice (some ⟨w3.heap.size, 0, none⟩) 1 1) 1 (cf [(y1, y2)]) (by simp [Act.eval]) (new_rd2 _ (y1, y2)) (cf_one _) HSM.out.1 HSM.out.2 ?_; intro a2 c2 w5 k1 k2 k3 k4; have hWW := Touch.src (w := w3) (by (repeat (first | exact Touch.refl _ _ | refine Touch.drewN ?_ _ | refine Touch.drew ?_ | refine Touch.alloc ?_ _))) k2; have q0 := ((HP.out.1.touch hWW (by simp)).touch k2 HAP.out.2.2.2.1).cell 0; have g0 := ((HP.out.1.touch hWW (by simp)).touch k2 HAP.out.2.2.2.1).frozen 0; simp only [List.getElem?_cons_zero] at q0; have HWW := Lib.hid hWW; have K1 := Lib.hid k1; have K2 := Lib.hid k2; have K3 := Lib.hid k3; clear k1 k2 k3 k4 hWW)
          all_goals
            go_wp2_with fail
            go_meet
            exact tab_put (M := M) HP.out HAP.out (by rw [← HFE.out]; exact HF3.out) HT3.out HI3.out (by rw [← HFE.out]; exact HPF3.out) HWW.out (by simp) K1.out K2.out K3.out
        case rest =>
          obtain ⟨a3, c3, hM3, hA3, hF4, hI4, hp4, hT4⟩ := hcut
          have HM3 := Lib.hid hM3
          have HA3 := Lib.hid hA3
          have HF4 := Lib.hid hF4
          have HI4 := Lib.hid hI4
          have HP4 := Lib.hid hp4
          have HT4 := Lib.hid hT4
          clear hM3 hA3 hF4 hI4 hp4 hT4 c0 f0 i0 i1 hpl c2 htl
          have e3 := HM3.out.1.cell 3
          have f3 := HM3.out.1.frozen 3
          have htl := HM3.out.1.lt
          simp only [List.getElem?_cons_zero, List.getElem?_cons_succ] at e3
          go_wp2_with fail
          have HM9 : Hid (TabM (wc.setCell ⟨t, 3, none⟩ (.int .i64 ((szL M : Int) + (n1 : Int)))) t bw bn (.slice a3 (M ++ [(y1, y2)]).length c3) (szL M + n1) s'.cnt cap (M ++ [(y1, y2)]) s'.cnt s'.cnt (whole M b) (names M b)) := by
            have hA := HA3.out
            have hT9 : Touch [t] wc (wc.setCell ⟨t, 3, none⟩ (.int .i64 ((szL M : Int) + (n1 : Int)))) := (Touch.refl [t] _).set (p := ⟨t, 3, none⟩) (.inl (by simp)) _
            refine Lib.hid ⟨?_, HM3.out.2.1.touch hT9 (fun g hg hm => by simp at hm; exact hA.2.2.2.1 (hm ▸ hg)), HM3.out.2.2.1.touch hT9 (by simpa using Ne.symm hA.1), HM3.out.2.2.2.touch hT9 (by simpa using Ne.symm hA.2.1)⟩
            have := HM3.out.1.set 3 (.int .i64 ((szL M : Int) + (n1 : Int)))
            simpa using this
          have HI9 := Lib.hid (HI4.out.set_other (m := t) (j := 3) (s := none) (fun e => HP4.out (by rw [e]; simp)) (.int .i64 ((szL M : Int) + (n1 : Int))))
          have HT9 := Lib.hid (HT4.out.set (p := ⟨t, 3, none⟩) (HF4.out t (by simp)) (.int .i64 ((szL M : Int) + (n1 : Int))))
          clear e3 f3 htl HM3 HI4 HT4
          generalize wc.setCell ⟨t, 3, none⟩ (.int .i64 ((szL M : Int) + (n1 : Int))) = wy at *
          have hok : OkW (y1, y2) := by
            have h1 := HN.out
            simp only [sz] at h1
            exact ⟨show y1.size ≤ maxLen by unfold maxLen; omega, show y2.size ≤ maxLen by unfold maxLen; omega⟩
          have hwf : (Lit.int .u64 (s'.cnt : Int)).wf = true := WalkArith.wf_u64 (by have := HCB.out; omega)
          have hmx : s'.cnt < maxLen := by have := HCB.out; unfold maxLen; omega
          obtain ⟨v0, st, w1, w2', e1, e2, iw, tA, tB⟩ := (HM9.out.2.2.1.drew).entry (y1, y2) hok (s'.cnt : Int) hwf hmx
          have tB0 : Touch [bw] wy w2' := ((Touch.refl [bw] wy).drew).trans tB (by simp)
          have tA0 : Touch [bw] wy w1 := ((Touch.refl [bw] wy).drew).trans tA (by simp)
          obtain ⟨v0', st', w4, w5, e3, e4, jn, tC, tD⟩ := (HM9.out.2.2.2.touch tB0 (by simpa using Ne.symm HA3.out.2.2.1)).entry y1 hok.1 (s'.cnt : Int) hwf hmx
          have hSS : ∀ W, (∃ ks, Touch ks wy W ∧ ∀ g ∈ ks, g = bw ∨ g = bn) → IsBlk W t [.slice a3 (M ++ [(y1, y2)]).length c3, .int .u64 s'.cnt, .int .i64 cap, .int .i64 ((szL M + n1 : Nat) : Int), .map (some bw), .map (some bn)] 56 ∧ IsBlk W p [.string y1, .string y2] 26 := by
            rintro W ⟨ks, hk, hg⟩
            have hp4 := HP4.out
            simp only [List.mem_cons, not_or] at hp4
            exact ⟨HM9.out.1.touch hk (fun hm => (hg _ hm).elim HA3.out.1 HA3.out.2.1), HI9.out.touch hk (fun hm => (hg _ hm).elim hp4.2.1 hp4.2.2.1)⟩
          have tC0 : Touch [bw, bn] wy w4 := (tB0.mono (js := [bw, bn]) (by simp)).trans tC (by simp)
          have tD0 : Touch [bw, bn] wy w5 := (tB0.mono (js := [bw, bn]) (by simp)).trans tD (by simp)
          obtain ⟨b0, p0⟩ := hSS wy ⟨[], Touch.refl _ _, by simp⟩
          obtain ⟨b1, p1⟩ := hSS w1 ⟨_, tA0, by simp⟩
          obtain ⟨b2, p2⟩ := hSS w2' ⟨_, tB0, by simp⟩
          obtain ⟨b4, p4⟩ := hSS w4 ⟨_, tC0, by simp⟩
          obtain ⟨b5, p5⟩ := hSS w5 ⟨_, tD0, by simp⟩
          have s0 := And.intro (b0.cell 4) (And.intro (b0.cell 5) (And.intro (b0.cell 1) (And.intro (p0.cell 0) (p0.cell 1))))
          have s1 := And.intro (b1.cell 4) (And.intro (b1.cell 5) (And.intro (b1.cell 1) (And.intro (p1.cell 0) (p1.cell 1))))
          have s2 := And.intro (b2.cell 4) (And.intro (b2.cell 5) (And.intro (b2.cell 1) (And.intro (p2.cell 0) (p2.cell 1))))
          have s4 := And.intro (b4.cell 4) (And.intro (b4.cell 5) (And.intro (b4.cell 1) (And.intro (p4.cell 0) (p4.cell 1))))
          have s5 := And.intro (b5.cell 4) (And.intro (b5.cell 5) (And.intro (b5.cell 1) (And.intro (p5.cell 0) (p5.cell 1))))
          simp only [List.getElem?_cons_zero, List.getElem?_cons_succ] at s0 s1 s2 s4 s5
          have HOKK := Lib.hid hok
          have HIW := Lib.hid (iw.touch (ks := [bn]) (w' := w5) tD (by simpa using HA3.out.2.2.1))
          have HJN := Lib.hid jn
          have HTD := Lib.hid tD0
          have HB5 := Lib.hid b5
          have htl := b0.lt
          have hpl := p0.lt
          have g5 := b5.frozen 1
          have hl5 := b5.lt
          simp only [keyW, keyN, goInt] at e1 e2 e3 e4
          clear hok iw jn tA tB tC tD tA0 tB0 tC0 tD0 hSS b0 b1 b2 b4 b5 p0 p1 p2 p4 p5 hmx hwf
          go_cut [] (fun wx => wx = w5)
          case first =>
            go_region_held3 (fun w' => w'.cell? ⟨t, 4, none⟩ = some (.map (some bw)) ∧ w'.cell? ⟨t, 5, none⟩ = some (.map (some bn)) ∧ w'.cell? ⟨t, 1, none⟩ = some (.int .u64 (s'.cnt : Int)) ∧ w'.cell? ⟨p, 0, none⟩ = some (.string y1) ∧ w'.cell? ⟨p, 1, none⟩ = some (.string y2)) (first | exact s0 | exact s1 | exact s2 | exact s4 | exact s5) (fail)
            all_goals
              go_wp2_with fail
              go_meet
              rfl
          case rest =>
            subst hcut
            have c1 := s5.2.2.1
            have hcb2 : (s'.cnt : Int) + 1 ≤ 1099511627776 := by have := HCB.out; omega
            have HS5 := Lib.hid s5
            clear s0 s1 s2 s4 s5 e1 e2 e3 e4
            go_wp2_with fail
            go_roundw
            case rel =>
              have hS := HM9.out.2.1.touch HTD.out (by
                intro g hg hm
                simp only [List.mem_cons, List.not_mem_nil, or_false] at hm
                rcases hm with rfl | rfl
                · exact HA3.out.2.2.2.2.1 hg
                · exact HA3.out.2.2.2.2.2 hg)
              have hD := tab_done (cv := (s'.cnt : Int) + 1) HB5.out hS HIW.out HJN.out HA3.out HB.out HN.out rfl
              refine ⟨k + 1, _, by omega, by go_num, ?_, ?_, ?_, HF4.out⟩
              · rw [HGT.out, HG1.out]
                simp
              · rw [HTK.out, HA1.out, if_pos hle, HMM.out]
                exact hD
              · exact (HT9.out.trans HTD.out (fun g hg => by
                  simp only [List.mem_cons, List.not_mem_nil, or_false] at hg
                  rcases hg with rfl | rfl
                  · exact HF4.out _ (by simp)
                  · exact HF4.out _ (by simp))).set (HF4.out t (by simp)) _
            case measure => simp [intOf]; omega
      · have hlt2 : cap < n1 := by omega
        have hleb : decide ((cap : Int) < (n1 : Int)) = true := by simp; omega
        go_wp2_with fail
        go_roundw
        case rel =>
          refine ⟨k + 1, F2, by omega, by go_num, ?_, ?_, HT3.out, HF3.out⟩
          · rw [HGT.out, HG1.out]
            simp
          · rw [HTK.out, HA1.out, if_neg hle, HMM.out]
            exact HR3.out
        case measure => simp [intOf]; omega
    · obtain rfl : k = l.length := by omega
      go_wp2_with fail
      go_ret
      exact ⟨ret_i (by rw [← HGN.out]; simp), F', by have := HR.out; rw [← HSS.out] at this; simpa using this, HT.out, HF.out⟩
end Go.Proofs.Ytfkmcbkhodppmaa
