/- The contract of the document's Forget. Conditions: the set has no more than 2^40 ranges; the number is no more than the greatest. -/
import Derived.Test.YtbijoeemioeejaaK
namespace Go.Proofs.Ytbijoeemioeejaa
open Go.RowKit

set_option maxHeartbeats 4000000 in
theorem refForget_any (w : World) (p : Nat) (F : List Nat) (L : List Rng) (b m : Nat) (h : IsS w p 30 F L b) (hb : L.length ≤ 1099511627776) (hm : m ≤ mx) :
    Calls Try.prog 14 #[.pointer (some ⟨p, 0, none⟩), .int .u64 (m : Int)] w fun e w' => e = .returned (.tuple #[]) ∧ ∃ F', IsS w' p 30 F' (fgt L (max b m)) (max b m) ∧ Touch F w w' ∧ ∀ g ∈ F', g ∈ F ∨ w.heap.size ≤ g := by
  obtain ⟨i0, hi0, hz0, hz1, hz2⟩ := info_parts info38
  have HH := Lib.hid h
  obtain ⟨a, c, h1, h2, rfl, h5, h6⟩ := h
  have c0 := h1.cell 0
  have c1 := h1.cell 1
  have f1 := h1.frozen 1
  simp only [List.getElem?_cons_zero, List.getElem?_cons_succ] at c0 c1
  have hl := h1.lt
  have hmx : m ≤ 4611686018427387903 := hm
  have hbx : b ≤ 4611686018427387903 := h6.2
  have H1 := Lib.hid h1
  have H2 := Lib.hid h2
  have H5 := Lib.hid h5
  have HV := Lib.hid h6.1
  clear h1 h2 h5 h6
  by_cases hmb : (m : Int) ≤ (b : Int)
  · go_enter Try.func14, Try.ntmps14
    go_wp2_with fail
    (try simp only [Exit.inBlock, Exit.then])
    refine bodyPost_ret (results_none rfl _ _ _) rfl ?_
    rw [Nat.max_eq_left (by omega), fgt_same HV.out]
    exact ⟨rfl, _, HH.out, Touch.refl _ _, fun g hg => .inl hg⟩
  have hmax : max b m = m := by omega
  rw [hmax]
  have HMX := Lib.hid hmax
  clear hmax
  go_enter Try.func14, Try.ntmps14
  go_wp2_with fail
  obtain ⟨W0, hW0⟩ : ∃ W0, W0 = w.setCell ⟨p, 1, none⟩ (.int .u64 (m : Int)) := ⟨_, rfl⟩
  rw [← hW0]
  have HB0 : Hid (IsBlk W0 p [.slice a L.length c, .int .u64 (m : Int)] 30) := Lib.hid (by rw [hW0]; exact H1.out.set 1 _)
  have HW : Hid (W0.heap.size = w.heap.size) := Lib.hid (by rw [hW0]; simp [World.setCell])
  have HT0 : Hid (Touch [p] w W0) := Lib.hid (by rw [hW0]; exact (Touch.refl _ _).set (.inl (by simp)) _)
  have HR0 : Hid (Rd W0 2 (.slice a L.length c) L.length (cr L)) := Lib.hid (H2.out.rd.touch HT0.out (fun g hg hp => H5.out (by simp at hp; rw [← hp]; exact hg)))
  clear hW0 c0 c1 f1
  go_loopw [5, 4] (fun i o wr => ∃ k : Nat, ∃ v : Value, k ≤ L.length ∧ i = .int .i64 (k : Int) ∧ o = v ∧ Sl wr 38 2 v (fgt (L.take k) m).length (cr (fgt (L.take k) m)) ∧ Touch [] W0 wr ∧ (∀ g ∈ own v, w.heap.size ≤ g)) (fun i _ _ => L.length - (intOf i).toNat)
  case atStart => exact ⟨0, _, by omega, by simp, rfl, by simpa [cr, fgt] using Sl.nil _ 38 2, Touch.refl _ _, by simp⟩
  case round =>
    obtain ⟨k, v, hk, rfl, rfl, hS, hT, hO⟩ := hrel
    have HT := Lib.hid hT
    have HO := Lib.hid hO
    have HS := Lib.hid hS
    obtain ⟨va, vc, hve, _⟩ := hS.form
    have h1 := HB0.out.touch hT (by simp)
    have c0 := h1.cell 0
    have f0 := h1.frozen 0
    simp only [List.getElem?_cons_zero] at c0
    have hl' := h1.lt
    have HR := Lib.hid (HR0.out.touch hT (by simp))
    have hfl := fgt_len (L.take k) m
    rw [List.length_take] at hfl
    generalize hN : fgt (L.take k) m = M at *
    subst hve
    clear h1 hS hT hO
    by_cases hlt : k < L.length
    · obtain ⟨x, hx⟩ : ∃ x, L[k]? = some x := ⟨_, List.getElem?_eq_getElem hlt⟩
      obtain ⟨g, o, rfl⟩ := HR.out.some (by omega)
      obtain ⟨d1, d2, hg⟩ := HR.out.two rfl _ x hx
      have hxs := fgt_take L k m x hx
      rw [hN] at hxs
      have hv := (HV.out.2 x (List.mem_of_getElem? hx)).2.1
      obtain ⟨x1, x2⟩ := x
      have HXS := Lib.hid hxs
      simp only at d1 d2 hv
      clear hx hxs
      by_cases hc : (x2 : Int) < (m : Int)
      · have hcn : ¬ max x1 m ≤ x2 := by omega
        go_wp2_with fail
        go_roundw
        case rel =>
          refine ⟨k + 1, _, by omega, by go_num, rfl, ?_, HT.out, HO.out⟩
          rw [HXS.out, if_neg hcn, List.append_nil]
          exact HS.out
        case measure => simp [intOf]; omega
      · have hcn : max x1 m ≤ x2 := by omega
        go_wp2_with fail
        go_region_law (refine step_append_sl _ rfl _ _ 27 rfl 38 i0 _ 2 16 under27 hi0 hz0 hz1 hz2 rfl (by omega) (.slice va M.length vc) M.length (cr M) (by simp [Act.eval, Act.put]) (HS.out.touch (ks := []) (by (repeat (first | exact Touch.refl _ _ | refine Touch.drewN ?_ _ | refine Touch.drew ?_ | refine Touch.set ?_ (.inr (by simp)) _ | refine Touch.alloc ?_ _))) (by simp)) (.slice (some ⟨wr.heap.size, 0, none⟩) 1 1) 1 (cr [(max x1 m, x2)]) (by simp [Act.eval, Act.put]) (Rd.newI wr.drew wr.heap.size (max (x1 : Int) (m : Int)) (x2 : Int) (max x1 m, x2) (by omega) rfl (by simp)) (cr_one _) (by unfold maxLen; omega) (by omega) fun a3 c3 w3 k1 k2 k3 k4 => ?_)
        all_goals go_wp2_with fail
        all_goals go_roundw
        all_goals first
          | (case rel =>
              refine ⟨k + 1, _, by omega, by go_num, rfl, ?_, ?_, ?_⟩
              · rw [HXS.out, if_pos hcn, cr_append, List.length_append]; exact k1
              · exact (HT.out.trans (js := []) (by (repeat (first | exact Touch.refl _ _ | refine Touch.drewN ?_ _ | refine Touch.drew ?_ | refine Touch.set ?_ (.inr (by simp)) _ | refine Touch.alloc ?_ _))) (by simp)).trans k2 (fun g hg => .inr (by have := HO.out g hg; have := HW.out; omega))
              · intro g hg
                rcases k3 g hg with h3 | h3
                · exact HO.out g h3
                · have := HT.out.size; have := HT0.out.size; simp at h3; omega)
          | (case measure => simp [intOf]; omega)
    · obtain rfl : k = L.length := by omega
      rw [List.take_length] at hN
      have HN := Lib.hid hN
      clear hN
      have HP := Lib.hid (HB0.out.touch HT.out (by simp))
      go_wp2_with fail
      go_end0
      have e1 : M = fgt L m := by rw [← HN.out]
      refine ⟨rfl, p :: own (.slice va M.length vc), ⟨va, vc, ?_, ?_, ?_, ?_, ?_, ?_⟩, ?_, ?_⟩
      · rw [← e1]
        exact HP.out.set 0 _
      · rw [← e1]
        exact HS.out.touch ((Touch.refl [p] wr).set (.inl (by simp)) _) (fun g hg hp => by have := HO.out g hg; simp at hp; omega)
      · rw [← e1]
      · rw [← e1]
        intro hp
        have := HO.out p hp
        omega
      · have := fgt_V (c := m) HV.out
        rw [HMX.out] at this
        exact this
      · show m ≤ 4611686018427387903
        omega
      · exact (HT0.out.trans (HT.out.mono (by simp)) (fun g hg => .inl hg)).set (.inl (by simp)) _ |>.mono (fun g hg => .inl (by simp at hg; simp [hg]))
      · intro g hg
        rcases List.mem_cons.1 hg with rfl | hg
        · exact .inl (by simp)
        · exact .inr (HO.out g hg)
end Go.Proofs.Ytbijoeemioeejaa
