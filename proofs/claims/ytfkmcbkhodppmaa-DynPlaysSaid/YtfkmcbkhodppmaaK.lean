/- The contract of the document's table's Add. Conditions: the sizes are no more than 2^40. -/
import Derived.Test.YtfkmcbkhodppmaaJ
namespace Go.Proofs.Ytfkmcbkhodppmaa
open Go.RowKit Go.Maps
set_option linter.unusedVariables false

theorem size_n (w : World) (y1 y2 : ByteArray) (n : Nat) (hn : sz (y1, y2) = n) (h : n ≤ 1099511627776) :
    Calls Try.prog 25 #[.agg #[.string y1, .string y2]] w fun e w' => e = .returned (.int .i64 n) ∧ Touch [] w w' := by
  subst hn
  have h1 : y1.size + y2.size + 32 ≤ 1099511627776 := h
  exact size_any w (y1, y2) (by simp only; omega) (by simp only; omega)
theorem up_all {l : List Nat} {w w' : World} (h : ∀ g ∈ l, g < w.heap.size) : w.heap.size ∉ l := fun hm => Nat.lt_irrefl _ (h _ hm)
theorem IsRef.cellOf {w : World} {t cap : Nat} {F : List Nat} {s : TS} (h : IsRef w t F s cap) : w.cell? ⟨t, 1, none⟩ = some (.int .i64 cap) ∧ t ∈ F := by
  obtain ⟨a, c, h1, h2, hF, h5, h6⟩ := h
  exact ⟨h1.cell 1, by rw [hF]; simp⟩

theorem Touch.src {ks : List Nat} {w W w5 : World} (h : Touch [] w W) (_ : Touch ks W w5) : Touch [] w W := h
theorem Sl.front {w : World} {a : Option Addr} {c : Nat} {M : List Fld} (h : Sl w 26 2 (.slice a M.length c) M.length (cf M)) :
    Sl w 26 2 (.slice a M.length M.length) M.length (cf M) ∧ ∀ g ∈ own (.slice a M.length M.length), g ∈ own (.slice a M.length c) := by
  rcases h.cases with ⟨he, h0, _⟩ | ⟨g, o, c', he, hnc, _⟩
  · simp at he
    obtain ⟨rfl, _, rfl⟩ := he
    obtain rfl : M = [] := List.eq_nil_of_length_eq_zero h0
    exact ⟨Sl.nil _ _ _, by simp⟩
  · simp at he
    obtain ⟨rfl, rfl⟩ := he
    refine ⟨?_, own_sub hnc⟩
    have := h.part 0 M.length M.length (by omega) (by omega) (by omega)
    have e : (cf M).take (M.length * 2) = cf M := List.take_of_length_le (by rw [cf_len]; omega)
    simpa [e] using this
/-- Behind the append: the table's slice is the longer one. -/
def Longer (w wx : World) (t cap cnt : Nat) (F : List Nat) (M : List Fld) : Prop :=
  ∃ a c, IsBlk wx t [.slice a M.length c, .int .i64 cap, .int .u64 cnt] 58 ∧ Sl wx 26 2 (.slice a M.length c) M.length (cf M) ∧ t ∉ own (.slice a M.length c) ∧ (∀ g ∈ own (.slice a M.length c), g ∈ F ∨ w.heap.size ≤ g) ∧ Touch F w wx
theorem ref_put {w wc W w5 : World} {t cap cnt m : Nat} {F F2 : List Nat} {v : Value} {M : List Fld} {y : Fld} {a2 : Option Addr} {c2 : Nat} (h1 : IsBlk wc t [v, .int .i64 cap, .int .u64 cnt] 58) (h5 : t ∉ own v) (hF2 : F2 = t :: own v) (hsub : ∀ g ∈ F2, g ∈ F)
    (hT : Touch F w wc) (hW : Touch [] wc W) (hm : m = (M ++ [y]).length) (k1 : Sl w5 26 2 (.slice a2 m c2) m (cf M ++ cf [y])) (k2 : Touch (own v) W w5) (k3 : ∀ g ∈ own (.slice a2 m c2), g ∈ own v ∨ W.heap.size ≤ g) :
    Longer w (w5.setCell ⟨t, 0, none⟩ (.slice a2 m c2)) t cap cnt F (M ++ [y]) := by
  subst hm
  have hw5 := (h1.touch hW (by simp)).touch k2 h5
  have htl := h1.lt
  have hs1 := hW.size
  have hs2 := hT.size
  have hT5 : Touch [t] w5 (w5.setCell ⟨t, 0, none⟩ (.slice a2 (M ++ [y]).length c2)) := (Touch.refl [t] _).set (p := ⟨t, 0, none⟩) (.inl (by simp)) _
  have hno : t ∉ own (.slice a2 (M ++ [y]).length c2) := fun hm => (k3 t hm).elim h5 (fun h => by omega)
  have htF : t ∈ F := hsub t (by rw [hF2]; simp)
  refine ⟨a2, c2, hw5.set 0 _, ?_, hno, fun g hg => ?_, ?_⟩
  · rw [cf_append]
    exact k1.touch hT5 (fun g hg hm => by simp at hm; exact hno (hm ▸ hg))
  · rcases k3 g hg with h | h
    · exact .inl (hsub g (by rw [hF2]; simp [h]))
    · exact .inr (by omega)
  · exact (((hT.trans hW (by simp)).trans k2 (fun g hg => .inl (hsub g (by rw [hF2]; simp [hg])))).trans hT5 (by simp [htF]))

theorem ref_done {wx : World} {t cap cnt c : Nat} {a : Option Addr} {M : List Fld} {y : Fld} {cv : Int} (h1 : IsBlk wx t [.slice a (M ++ [y]).length c, .int .i64 cap, .int .u64 cnt] 58) (h2 : Sl wx 26 2 (.slice a (M ++ [y]).length c) (M ++ [y]).length (cf (M ++ [y])))
    (h5 : t ∉ own (.slice a (M ++ [y]).length c)) (h6 : M.length ≤ cnt) (hcv : cv = (cnt : Int) + 1) :
    IsRef (wx.setCell ⟨t, 2, none⟩ (.int .u64 cv)) t (t :: own (.slice a (M ++ [y]).length c)) ⟨M ++ [y], cnt + 1⟩ cap ∧ Touch [t] wx (wx.setCell ⟨t, 2, none⟩ (.int .u64 cv)) := by
  subst hcv
  have hTT : Touch [t] wx (wx.setCell ⟨t, 2, none⟩ (.int .u64 ((cnt : Int) + 1))) := (Touch.refl [t] _).set (p := ⟨t, 2, none⟩) (.inl (by simp)) _
  exact ⟨⟨a, c, h1.set 2 _, h2.touch hTT (fun g hg hm => by simp at hm; exact h5 (hm ▸ hg)), rfl, h5, by simp; omega⟩, hTT⟩

set_option maxRecDepth 100000 in
set_option maxHeartbeats 16000000 in
theorem refAdd_any {w : World} {t cap : Nat} {F : List Nat} {s : TS} (h : IsRef w t F s cap) (y : Fld) (hy : sz y ≤ 1099511627776) (hcap : cap ≤ 1099511627776) (hcn : s.cnt < 1099511627776) (hz : szL s.L ≤ 1099511627776) :
    Calls Try.prog 11 #[.pointer (some ⟨t, 0, none⟩), .agg #[.string y.1, .string y.2]] w fun e w' => e = .returned (.int .i64 (gone1 cap s y)) ∧ ∃ F', IsRef w' t F' (add1 cap s y) cap ∧ Touch F w w' ∧ ∀ g ∈ F', g ∈ F ∨ w.heap.size ≤ g := by
  obtain ⟨y1, y2⟩ := y
  obtain ⟨n1, hn1⟩ : ∃ n, sz (y1, y2) = n := ⟨_, rfl⟩
  rw [hn1] at hy
  have HG : Hid (gone1 cap s (y1, y2) = fitN s.L ((cap : Int) - (n1 : Int))) := Lib.hid (by rw [gone1, hn1])
  have HA := Lib.hid (show add1 cap s (y1, y2) = (if n1 ≤ cap then ⟨fitL s.L ((cap : Int) - (n1 : Int)) ++ [(y1, y2)], s.cnt + 1⟩ else ⟨fitL s.L ((cap : Int) - (n1 : Int)), s.cnt⟩) by rw [add1, hn1])
  have HN := Lib.hid hn1
  have hw1 : IntKind.i64.wrap ((cap : Int) - (n1 : Int)) = (cap : Int) - (n1 : Int) := IntWalk.i64_in _ (by omega)
  have HR := Lib.hid (h.keep ((Touch.refl [] w).alloc (.cells #[.string y1, .string y2] 26)))
  have hI := IsBlk.new w [.string y1, .string y2] 26
  have HI := Lib.hid hI
  have HLT := Lib.hid h.lt
  have hIF : w.heap.size ∉ F := fun hm => Nat.lt_irrefl _ (h.lt _ hm)
  have HIF := Lib.hid hIF
  have HT := Lib.hid ((Touch.refl F w).alloc (.cells #[.string y1, .string y2] 26))
  have HZ := Lib.hid hz
  have HCN := Lib.hid hcn
  have HMB := Lib.hid (show -1099511627776 ≤ (cap : Int) - (n1 : Int) ∧ (cap : Int) - (n1 : Int) ≤ 1099511627776 by omega)
  clear h hI hIF hz hcn hn1
  go_enter Try.func11, Try.ntmps11
  go_wp2_with fail
  have HBASE := Lib.hid (show w.heap.size < (w.alloc (.cells #[.string y1, .string y2] 26)).heap.size by simp)
  generalize w.alloc (.cells #[.string y1, .string y2] 26) = w1 at *
  generalize hp : w.heap.size = p at *
  have HP := Lib.hid hp
  clear hp
  have c1 := HR.out.cellOf.1
  have i0 := HI.out.cell 0
  have i1 := HI.out.cell 1
  have hpl := HI.out.lt
  have htl := HR.out.lt t HR.out.cellOf.2
  simp only [List.getElem?_cons_zero, List.getElem?_cons_succ] at i0 i1
  go_cut [5] (fun s5 wx => s5 = .int .i64 (fitN s.L ((cap : Int) - (n1 : Int))) ∧ (∃ F', IsRef wx t F' ⟨fitL s.L ((cap : Int) - (n1 : Int)), s.cnt⟩ cap ∧ ∀ g ∈ F', g ∈ F) ∧ IsBlk wx p [.string y1, .string y2] 26 ∧ Touch F w wx)
  case first =>
    go_region_held3 (fun w' => w'.cell? ⟨t, 1, none⟩ = some (.int .i64 cap) ∧ w'.cell? ⟨p, 0, none⟩ = some (.string y1) ∧ w'.cell? ⟨p, 1, none⟩ = some (.string y2)) (go_keep) (first | (go_at_call 25; refine (size_n _ y1 y2 n1 HN.out (by omega)).mono ?_; rintro e w2 ⟨rfl, hT⟩; have hT2 := Touch.trans (w := w1) (ks := []) (by (repeat (first | exact Touch.refl _ _ | refine Touch.drewN ?_ _ | refine Touch.drew ?_ | refine Touch.alloc ?_ _))) hT (by simp); have HR2 := Lib.hid (HR.out.keep hT2); have HI2 := Lib.hid (HI.out.touch hT2 (by simp)); have HT2 := Lib.hid (HT.out.trans hT2 (by simp)); have c1 := HR2.out.cellOf.1; have i0 := HI2.out.cell 0; have i1 := HI2.out.cell 1; have htl2 := HR2.out.lt t HR2.out.cellOf.2; simp only [List.getElem?_cons_zero, List.getElem?_cons_succ] at i0 i1; clear hT hT2) | (go_at_call 24; refine (refFit_any HR2.out _ HMB.out HZ.out).mono ?_; rintro e w3 ⟨rfl, F2, hR, hT, hF⟩; have HR3 := Lib.hid hR; have HI3 := Lib.hid (HI2.out.touch hT (by simpa using HIF.out)); have HF3 := Lib.hid hF; have HT3 := Lib.hid (HT2.out.trans hT (fun g hg => .inl hg)); have c1 := HR3.out.cellOf.1; have i0 := HI3.out.cell 0; have i1 := HI3.out.cell 1; simp only [List.getElem?_cons_zero, List.getElem?_cons_succ] at i0 i1; clear hR hT hF))
    all_goals
      go_wp2_with fail
      go_meet
      exact ⟨rfl, ⟨F2, HR3.out, HF3.out⟩, HI3.out, HT3.out⟩
  case rest =>
    obtain ⟨rfl, ⟨F2, hR, hF⟩, hI, hT⟩ := hcut
    have HR := Lib.hid hR
    have HF := Lib.hid hF
    have HI := Lib.hid hI
    have HT := Lib.hid hT
    clear hR hF hI hT c1 i0 i1 hpl htl
    have c1 := HR.out.cellOf.1
    have i0 := HI.out.cell 0
    have i1 := HI.out.cell 1
    have hpl := HI.out.lt
    have htl := HR.out.lt t HR.out.cellOf.2
    simp only [List.getElem?_cons_zero, List.getElem?_cons_succ] at i0 i1
    have n0 := World.new_ne wc _ c1
    have n1' := World.new_ne wc _ i0
    have n2' := World.new_ne wc _ i1
    go_wp2_with fail
    go_cut [21] (fun s21 wx => s21 = .bool (decide (n1 ≤ cap)) ∧ IsRef wx t F2 ⟨fitL s.L ((cap : Int) - (n1 : Int)), s.cnt⟩ cap ∧ IsBlk wx p [.string y1, .string y2] 26 ∧ Touch F w wx)
    case first =>
      go_region_held3 (fun w' => w'.cell? ⟨t, 1, none⟩ = some (.int .i64 cap) ∧ w'.cell? ⟨p, 0, none⟩ = some (.string y1) ∧ w'.cell? ⟨p, 1, none⟩ = some (.string y2)) (go_keep) (first | (go_at_call 25; refine (size_n _ y1 y2 n1 HN.out (by omega)).mono ?_; rintro e w2 ⟨rfl, hT⟩; have hT2 := Touch.trans (w := wc) (ks := []) (by (repeat (first | exact Touch.refl _ _ | refine Touch.drewN ?_ _ | refine Touch.drew ?_ | refine Touch.alloc ?_ _))) hT (by simp); have HR2 := Lib.hid (HR.out.keep hT2); have HI2 := Lib.hid (HI.out.touch hT2 (by simp)); have HT2 := Lib.hid (HT.out.trans hT2 (by simp)); have c1 := HR2.out.cellOf.1; have i0 := HI2.out.cell 0; have i1 := HI2.out.cell 1; simp only [List.getElem?_cons_zero, List.getElem?_cons_succ] at i0 i1; clear hT hT2))
      all_goals
        go_wp2_with fail
        go_meet
        exact ⟨rfl, HR2.out, HI2.out, HT2.out⟩
    case rest =>
      obtain ⟨rfl, hR, hI, hT⟩ := hcut
      have HR := Lib.hid hR
      have HI := Lib.hid hI
      have HT := Lib.hid hT
      clear hR hI hT c1 i0 i1 hpl htl n0 n1' n2'
      by_cases hle : n1 ≤ cap
      · have hleb : decide (n1 ≤ cap) = true := by simpa using hle
        have HAY := Lib.hid (show add1 cap s (y1, y2) = ⟨fitL s.L ((cap : Int) - (n1 : Int)) ++ [(y1, y2)], s.cnt + 1⟩ by rw [HA.out, if_pos hle])
        have hML : szL (fitL s.L ((cap : Int) - (n1 : Int))) ≤ 1099511627776 := Nat.le_trans (szL_fitL_le _ _) HZ.out
        obtain ⟨M, hM⟩ : ∃ M, fitL s.L ((cap : Int) - (n1 : Int)) = M := ⟨_, rfl⟩
        rw [hM] at HR HAY hML
        obtain ⟨a, c, h1, h2, hF2, h5, h6⟩ := HR.out
        simp only at h1 h2 hF2 h5 h6
        have hlen := szL_len M
        have hcn := HCN.out
        have HSM := Lib.hid (show M.length + 1 ≤ maxLen ∧ (M.length + 1) * 32 ≤ 140737488355328 by unfold maxLen; omega)
        have c0 := h1.cell 0
        have c2 := h1.cell 2
        have f0 := h1.frozen 0
        have f2 := h1.frozen 2
        have i0 := HI.out.cell 0
        have i1 := HI.out.cell 1
        have hpl := HI.out.lt
        have htl := h1.lt
        simp only [List.getElem?_cons_zero, List.getElem?_cons_succ] at c0 c2 i0 i1
        have H1 := Lib.hid h1
        have H2 := Lib.hid h2
        have HF2 := Lib.hid hF2
        have H5 := Lib.hid h5
        have H6 := Lib.hid h6
        have hml : (M.length : Int) ≤ 1099511627776 := by omega
        clear h1 h2 hF2 h5 h6 hM hML hlen hcn
        obtain ⟨j0, hj, hy0, hy1, hy2⟩ := info_parts info26
        go_wp2_with fail
        go_cut [] (fun wx => Longer w wx t cap s.cnt F (M ++ [(y1, y2)]))
        case first =>
          have HPT := Lib.hid (Sl.front H2.out)
          have HO := Lib.hid (show t ∉ own (.slice a M.length M.length) from fun hm => H5.out (HPT.out.2 _ hm))
          have hml0 : (0 : Int) ≤ (M.length : Int) := by omega
          have hmlc : (M.length : Int) ≤ (c : Int) := by
            rcases H2.out.cases with ⟨he, h0, _⟩ | ⟨g, o, c', he, hnc, _⟩
            · omega
            · simp at he; omega
          go_region_law (refine step_append_sl _ rfl (.tmp 37) (.tmp 39) 23 rfl 26 j0 (.agg #[.string ByteArray.empty, .string ByteArray.empty]) 2 32 Try.underlying23 hj hy0 hy1 hy2 rfl (by decide) (.slice a M.length M.length) M.length (cf M) (by simp [Act.eval, Act.put]) (HPT.out.1.touch (ks := []) (by (repeat (first | exact Touch.refl _ _ | refine Touch.drewN ?_ _ | refine Touch.drew ?_ | refine Touch.alloc ?_ _))) (by simp)) (.slice (some ⟨wc.heap.size, 0, none⟩) 1 1) 1 (cf [(y1, y2)]) (by simp [Act.eval, Act.put]) (new_rd2 _ (y1, y2)) (cf_one _) HSM.out.1 HSM.out.2 ?_; intro a2 c2 w5 k1 k2 k3 k4; have hWW := Touch.src (w := wc) (by (repeat (first | exact Touch.refl _ _ | refine Touch.drewN ?_ _ | refine Touch.drew ?_ | refine Touch.alloc ?_ _))) k2; have q0 := ((H1.out.touch hWW (by simp)).touch k2 HO.out).cell 0; have g0 := ((H1.out.touch hWW (by simp)).touch k2 HO.out).frozen 0; simp only [List.getElem?_cons_zero] at q0; have HWW := Lib.hid hWW; have K1 := Lib.hid k1; have K2 := Lib.hid k2; have K3 := Lib.hid k3; clear k1 k2 k3 k4 hWW)
          all_goals
            go_wp2_with fail
            go_meet
            exact ref_put (M := M) H1.out H5.out HF2.out HF.out HT.out HWW.out (by simp) K1.out (K2.out.mono (fun g hg => .inl (HPT.out.2 g hg))) (fun g hg => (K3.out g hg).imp (HPT.out.2 g) id)
        case rest =>
          obtain ⟨a3, c3, h1, h2, h5, h6, hT⟩ := hcut
          have d2 := h1.cell 2
          have g2 := h1.frozen 2
          have dtl := h1.lt
          simp only [List.getElem?_cons_zero, List.getElem?_cons_succ] at d2
          have hcn2 : (s.cnt : Int) + 1 ≤ 1099511627776 := by have := HCN.out; omega
          have J1 := Lib.hid h1
          have J2 := Lib.hid h2
          have J5 := Lib.hid h5
          have J6 := Lib.hid h6
          have JT := Lib.hid hT
          clear h1 h2 h5 h6 hT c0 c2 f0 f2 i0 i1 hpl htl
          go_wp2_with fail
          go_ret
          have htF : t ∈ F := HF.out t (by rw [HF2.out]; simp)
          obtain ⟨r1, r2⟩ := ref_done (cv := (s.cnt : Int) + 1) J1.out J2.out J5.out H6.out rfl
          refine ⟨ret_i (by rw [HG.out]), t :: own (.slice a3 (M ++ [(y1, y2)]).length c3), by rw [HAY.out]; exact r1, JT.out.trans r2 (by simp [htF]), fun g hg => ?_⟩
          simp only [List.mem_cons] at hg
          rcases hg with rfl | hg
          · exact .inl htF
          · exact J6.out g hg
      · have hleb : decide (n1 ≤ cap) = false := by simpa using hle
        have HAY := Lib.hid (show add1 cap s (y1, y2) = ⟨fitL s.L ((cap : Int) - (n1 : Int)), s.cnt⟩ by rw [HA.out, if_neg hle])
        go_wp2_with fail
        go_ret
        exact ⟨ret_i (by rw [HG.out]), F2, by rw [HAY.out]; exact HR.out, HT.out, fun g hg => .inl (HF.out g hg)⟩
end Go.Proofs.Ytfkmcbkhodppmaa
