/- The contracts of Forget on both sides. Conditions: the set has no more than 2^40 ranges; the number is no more than the greatest. -/
import Derived.Test.YtbijoeemioeejaaJ
namespace Go.Proofs.Ytbijoeemioeejaa
open Go.RowKit

theorem fgt_take (L : List Rng) (k b : Nat) (x : Rng) (hx : L[k]? = some x) : fgt (L.take (k + 1)) b = fgt (L.take k) b ++ (if max x.1 b ≤ x.2 then [(max x.1 b, x.2)] else []) := by
  unfold fgt
  rw [List.take_add_one, hx, List.filterMap_append]
  congr 1
  simp
  split <;> simp_all
theorem fgt_len (L : List Rng) (b : Nat) : (fgt L b).length ≤ L.length := List.length_filterMap_le _ _

theorem Rd.newI (w : World) (q : Nat) (i1 i2 : Int) (x : Rng) (h1 : i1 = (x.1 : Int)) (h2 : i2 = (x.2 : Int)) (hq : q = w.heap.size) : Rd (w.alloc (.cells #[.int .u64 i1, .int .u64 i2] 38)) 2 (.slice (Option.some ⟨q, 0, none⟩) 1 1) 1 (cr [x]) := by
  rw [h1, h2, hq]
  exact Rd.new w x

set_option maxHeartbeats 2000000 in
theorem forget_any (w : World) (p : Nat) (F : List Nat) (L : List Rng) (b m : Nat) (h : IsS w p 50 F L b) (hb : L.length ≤ 1099511627776) (hm : m ≤ mx) :
    Calls Try.prog 13 #[.pointer (some ⟨p, 0, none⟩), .int .u64 (m : Int)] w fun e w' => e = .returned (.tuple #[]) ∧ ∃ F', IsS w' p 50 F' (fgt L (max b m)) (max b m) ∧ Touch F w w' ∧ ∀ g ∈ F', g ∈ F ∨ w.heap.size ≤ g := by
  obtain ⟨i0, hi0, hz0, hz1, hz2⟩ := info_parts info38
  obtain ⟨a, c, h1, h2, rfl, h5, h6⟩ := h
  have c0 := h1.cell 0
  have c1 := h1.cell 1
  have f1 := h1.frozen 1
  simp only [List.getElem?_cons_zero, List.getElem?_cons_succ] at c0 c1
  have hl := h1.lt
  have hmx : m ≤ 4611686018427387903 := hm
  have hbx : b ≤ 4611686018427387903 := h6.2
  obtain ⟨B, hB⟩ : ∃ B, B = max b m := ⟨_, rfl⟩
  have hB1 : ((max b m : Nat) : Int) = (B : Int) := by rw [hB]
  have hBx : B ≤ 4611686018427387903 := by omega
  have H1 := Lib.hid h1
  have H2 := Lib.hid h2
  have H5 := Lib.hid h5
  have HV := Lib.hid h6.1
  have HB := Lib.hid hB
  clear h1 h2 h5 h6 hB
  go_enter Try.func13, Try.ntmps13
  go_wp2_with fail
  rw [show max (b : Int) (m : Int) = (B : Int) from by omega]
  obtain ⟨W0, hW0⟩ : ∃ W0, W0 = w.setCell ⟨p, 1, none⟩ (.int .u64 (B : Int)) := ⟨_, rfl⟩
  rw [← hW0]
  have HB0 : Hid (IsBlk W0 p [.slice a L.length c, .int .u64 (B : Int)] 50) := Lib.hid (by rw [hW0]; exact H1.out.set 1 _)
  have HW : Hid (W0.heap.size = w.heap.size) := Lib.hid (by rw [hW0]; simp [World.setCell])
  have HT0 : Hid (Touch [p] w W0) := Lib.hid (by rw [hW0]; exact (Touch.refl _ _).set (.inl (by simp)) _)
  have HR0 : Hid (Rd W0 2 (.slice a L.length c) L.length (cr L)) := Lib.hid (H2.out.rd.touch HT0.out (fun g hg hp => H5.out (by simp at hp; rw [← hp]; exact hg)))
  clear hW0 c0 c1 f1
  go_loopw [21, 4] (fun i o wr => ∃ k : Nat, ∃ v : Value, k ≤ L.length ∧ i = .int .i64 (k : Int) ∧ o = v ∧ Sl wr 38 2 v (fgt (L.take k) B).length (cr (fgt (L.take k) B)) ∧ Touch [] W0 wr ∧ (∀ g ∈ own v, w.heap.size ≤ g)) (fun i _ _ => L.length - (intOf i).toNat)
  case atStart => exact ⟨0, _, by omega, by simp, rfl, by simpa [cr, fgt] using Sl.nil _ 38 2, Touch.refl _ _, by simp⟩
  case round =>
    obtain ⟨k, v, hk, rfl, rfl, hS, hT, hO⟩ := hrel
    have HT := Lib.hid hT
    have HO := Lib.hid hO
    have HS := Lib.hid hS
    obtain ⟨va, vc, hve, _⟩ := hS.form
    have h1 := HB0.out.touch hT (by simp)
    have c0 := h1.cell 0
    have c1 := h1.cell 1
    have f0 := h1.frozen 0
    simp only [List.getElem?_cons_zero, List.getElem?_cons_succ] at c0 c1
    have hl' := h1.lt
    have HR := Lib.hid (HR0.out.touch hT (by simp))
    have hfl := fgt_len (L.take k) B
    rw [List.length_take] at hfl
    generalize hN : fgt (L.take k) B = M at *
    subst hve
    clear h1 hS hT hO
    by_cases hlt : k < L.length
    · obtain ⟨x, hx⟩ : ∃ x, L[k]? = some x := ⟨_, List.getElem?_eq_getElem hlt⟩
      obtain ⟨g, o, rfl⟩ := HR.out.some (by omega)
      obtain ⟨d1, d2, hg⟩ := HR.out.two rfl _ x hx
      have hxs := fgt_take L k B x hx
      rw [hN] at hxs
      obtain ⟨x1, x2⟩ := x
      have HXS := Lib.hid hxs
      simp only at d1 d2
      clear hx hxs
      by_cases hc : max (x1 : Int) (B : Int) ≤ (x2 : Int)
      · have hcn : max x1 B ≤ x2 := by omega
        go_wp2_with fail
        go_region
        all_goals go_wp2_with (at_builtin; go_loud (refine wpList_append_sl _ rfl _ _ 27 rfl 38 i0 _ 2 16 under27 hi0 hz0 hz1 hz2 rfl (by omega) (.slice va M.length vc) M.length (cr M) rfl (HS.out.touch (ks := []) (by (repeat (first | exact Touch.refl _ _ | refine Touch.drewN ?_ _ | refine Touch.drew ?_ | refine Touch.set ?_ (.inr (by simp)) _ | refine Touch.alloc ?_ _))) (by simp)) (.slice (some ⟨wr.heap.size + 1, 0, none⟩) 1 1) 1 (cr [(max x1 B, x2)]) rfl ((Rd.newI (wr.alloc (.cells #[.int .u64 (max (x1 : Int) (B : Int)), .int .u64 (x2 : Int)] 38)) (wr.heap.size + 1) (max (x1 : Int) (B : Int)) (x2 : Int) (max x1 B, x2) (by omega) rfl (by simp)).touch ((Touch.refl [] _).drew) (by simp)) (cr_one _) (by unfold maxLen; omega) (by omega) fun a3 c3 w3 k1 k2 k3 k4 => ?_))
        all_goals go_roundw
        all_goals first
          | (case rel =>
              refine ⟨k + 1, _, by omega, by go_num, rfl, ?_, ?_, ?_⟩
              · rw [HXS.out, if_pos hcn, cr_append, List.length_append]; exact k1
              · exact (HT.out.trans (js := []) (by (repeat (first | exact Touch.refl _ _ | refine Touch.drewN ?_ _ | refine Touch.drew ?_ | refine Touch.set ?_ (.inr (by simp)) _ | refine Touch.alloc ?_ _))) (by simp)).trans k2 (fun g hg => .inr (by have := HO.out g hg; have := HW.out; omega))
              · intro g hg
                rcases k3 g hg with h3 | h3
                · exact HO.out g h3
                · have := HT.out.size; have := HT0.out.size; simp at h3; omega)
          | (case measure => simp [intOf]; omega)
      · have hcn : ¬ max x1 B ≤ x2 := by omega
        go_wp2_with fail
        go_region
        all_goals go_wp2_with fail
        all_goals go_roundw
        all_goals first
          | (case rel =>
              refine ⟨k + 1, _, by omega, by go_num, rfl, ?_, ?_, HO.out⟩
              · rw [HXS.out, if_neg hcn, List.append_nil]
                exact HS.out.touch (ks := []) (by (repeat (first | exact Touch.refl _ _ | refine Touch.drewN ?_ _ | refine Touch.drew ?_ | refine Touch.set ?_ (.inr (by simp)) _ | refine Touch.alloc ?_ _))) (by simp)
              · exact HT.out.trans (js := []) (by (repeat (first | exact Touch.refl _ _ | refine Touch.drewN ?_ _ | refine Touch.drew ?_ | refine Touch.set ?_ (.inr (by simp)) _ | refine Touch.alloc ?_ _))) (by simp))
          | (case measure => simp [intOf]; omega)
    · obtain rfl : k = L.length := by omega
      rw [List.take_length] at hN
      have HN := Lib.hid hN
      clear hN
      have HP := Lib.hid (HB0.out.touch HT.out (by simp))
      go_wp2_with fail
      go_end0
      have e1 : M = fgt L (max b m) := by rw [← HN.out, HB.out]
      refine ⟨rfl, p :: own (.slice va M.length vc), ⟨va, vc, ?_, ?_, ?_, ?_, ?_, ?_⟩, ?_, ?_⟩
      · rw [← e1, ← HB.out]
        exact HP.out.set 0 _
      · rw [← e1]
        exact HS.out.touch ((Touch.refl [p] wr).set (.inl (by simp)) _) (fun g hg hp => by have := HO.out g hg; simp at hp; omega)
      · rw [← e1]
      · rw [← e1]
        intro hp
        have := HO.out p hp
        omega
      · have := fgt_V (c := max b m) HV.out
        rw [show max b (max b m) = max b m from by omega] at this
        exact this
      · show max b m ≤ 4611686018427387903
        omega
      · exact (HT0.out.trans (HT.out.mono (by simp)) (fun g hg => .inl hg)).set (.inl (by simp)) _ |>.mono (fun g hg => .inl (by simp at hg; simp [hg]))
      · intro g hg
        rcases List.mem_cons.1 hg with rfl | hg
        · exact .inl (by simp)
        · exact .inr (HO.out g hg)
end Go.Proofs.Ytbijoeemioeejaa
