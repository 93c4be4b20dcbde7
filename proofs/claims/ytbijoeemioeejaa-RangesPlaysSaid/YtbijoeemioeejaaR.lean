/- The contract of the document's Span. Conditions: the set has fewer than 2^40 ranges. -/
import Derived.Test.YtbijoeemioeejaaN
import Derived.BigRegion
namespace Go.Proofs.Ytbijoeemioeejaa
open Go.RowKit

/-- A round of the document's Span: k ranges are seen, the new one has become f2 to l2, M is laid out. -/
structure St (L : List Rng) (f1 l1 k : Nat) (pt : Bool) (f2 l2 : Nat) (M : List Rng) : Prop where
  len : M.length ≤ k + 1
  fl : f2 ≤ l2
  lm : l2 ≤ 4611686018427387903
  no : pt = false → sp L f1 l1 = M ++ sp (L.drop k) f2 l2 ∧ M.length ≤ k
  yes : pt = true → sp L f1 l1 = M ++ L.drop k ∧ ∀ j x, k ≤ j → L[j]? = some x → l2 + 1 < x.1
section
variable {L : List Rng} {b f1 l1 k f2 l2 : Nat} {M : List Rng} {x : Rng}
theorem St.out (h : St L f1 l1 k false f2 l2 M) (hx : L[k]? = some x) (h1 : x.2 + 1 < f2) : St L f1 l1 (k + 1) false f2 l2 (M ++ [x]) := by
  have hn := h.no rfl
  refine ⟨by simp; omega, h.fl, h.lm, fun _ => ⟨?_, by simp; omega⟩, by simp⟩
  rw [hn.1, dropR_at hx, sp, if_pos h1]
  simp
theorem St.past (h : St L f1 l1 k true f2 l2 M) (hx : L[k]? = some x) (hb : M.length ≤ k + 1) : St L f1 l1 (k + 1) true f2 l2 (M ++ [x]) := by
  have hn := h.yes rfl
  refine ⟨by simp; omega, h.fl, h.lm, by simp, fun _ => ⟨?_, fun j y hj => hn.2 j y (by omega)⟩⟩
  rw [hn.1, dropR_at hx]
  simp
theorem St.put (hV : V L b) (h : St L f1 l1 k false f2 l2 M) (hx : L[k]? = some x) (h1 : ¬ x.2 + 1 < f2) (h2 : l2 + 1 < x.1) : St L f1 l1 (k + 1) true f2 l2 (M ++ [(f2, l2)] ++ [x]) := by
  have hn := h.no rfl
  refine ⟨by simp; omega, h.fl, h.lm, by simp, fun _ => ⟨?_, fun j y hj hy => ?_⟩⟩
  · rw [hn.1, dropR_at hx, sp, if_neg h1, if_pos h2]
    simp
  · obtain ⟨hjl, hye⟩ := List.getElem?_eq_some_iff.1 hy
    obtain ⟨hkl, hxe⟩ := List.getElem?_eq_some_iff.1 hx
    have h3 := List.pairwise_iff_getElem.1 hV.1 k j hkl hjl (by omega)
    have h4 := hV.2 x (List.mem_of_getElem? hx)
    rw [hye, hxe] at h3
    omega
theorem St.join (hV : V L b) (h : St L f1 l1 k false f2 l2 M) (hx : L[k]? = some x) (h1 : ¬ x.2 + 1 < f2) (h2 : ¬ l2 + 1 < x.1) : St L f1 l1 (k + 1) false (min f2 x.1) (max l2 x.2) M := by
  have hn := h.no rfl
  have h4 := hV.2 x (List.mem_of_getElem? hx)
  have h5 := h.fl
  have h6 := h.lm
  have h7 : x.2 ≤ 4611686018427387903 := h4.2.2
  refine ⟨by omega, by omega, by omega, fun _ => ⟨?_, by omega⟩, by simp⟩
  rw [hn.1, sp_join hx h1 h2]
theorem St.end_no (h : St L f1 l1 L.length false f2 l2 M) : sp L f1 l1 = M ++ [(f2, l2)] := by
  rw [(h.no rfl).1, List.drop_length]
  rfl
theorem St.end_yes (h : St L f1 l1 L.length true f2 l2 M) : sp L f1 l1 = M := by
  rw [(h.yes rfl).1, List.drop_length]
  simp
end

set_option maxRecDepth 100000 in
set_option maxHeartbeats 4000000 in
theorem refSpan_any (w : World) (p : Nat) (F : List Nat) (L : List Rng) (b f l : Nat) (h : IsS w p 30 F L b) (hb : L.length ≤ 1099511627776) (hf : f < 18446744073709551616) (hl64 : l < 18446744073709551616) :
    Calls Try.prog 12 #[.pointer (some ⟨p, 0, none⟩), .agg #[.int .u64 (f : Int), .int .u64 (l : Int)]] w fun e w' => e = .returned (.tuple #[]) ∧ ∃ F', IsS w' p 30 F' (spOp L b f l) b ∧ Touch F w w' ∧ ∀ g ∈ F', g ∈ F ∨ w.heap.size ≤ g := by
  obtain ⟨i0, hi0, hz0, hz1, hz2⟩ := info_parts info38
  have HH := Lib.hid h
  obtain ⟨a, c, h1, h2, rfl, h5, h6⟩ := h
  have H1 := Lib.hid h1
  have H2 := Lib.hid h2
  have c1 := h1.cell 1
  simp only [List.getElem?_cons_zero, List.getElem?_cons_succ] at c1
  have hl := h1.lt
  have hbx : b ≤ 4611686018427387903 := h6.2
  have HV := Lib.hid h6.1
  have H5 := Lib.hid h5
  clear h1 h2 h5 h6
  have HA : Hid (∀ o, Touch [] w (w.alloc o)) := Lib.hid (fun o => (Touch.refl _ _).alloc o)
  by_cases hfl : (l : Int) < (f : Int)
  · go_enter Try.func12, Try.ntmps12
    go_wp2_with fail
    (try simp only [Exit.inBlock, Exit.then])
    refine bodyPost_ret (results_none rfl _ _ _) rfl ?_
    rw [show spOp L b f l = L from if_neg (by omega)]
    exact ⟨rfl, _, HH.out.keep (HA.out _), (HA.out _).mono (by simp), fun g hg => .inl (by simpa using hg)⟩
  by_cases hfm : (4611686018427387903 : Int) < (f : Int)
  · go_enter Try.func12, Try.ntmps12
    go_wp2_with fail
    (try simp only [Exit.inBlock, Exit.then])
    refine bodyPost_ret (results_none rfl _ _ _) rfl ?_
    rw [show spOp L b f l = L from if_neg (by unfold mx; omega)]
    exact ⟨rfl, _, HH.out.keep (HA.out _), (HA.out _).mono (by simp), fun g hg => .inl (by simpa using hg)⟩
  obtain ⟨l1, hl1⟩ : ∃ l1, l1 = min l mx := ⟨_, rfl⟩
  have hl1' : l1 ≤ 4611686018427387903 := by rw [hl1]; exact Nat.min_le_right _ _
  have E0 : Hid (min (l : Int) 4611686018427387903 = (l1 : Int)) := Lib.hid (by rw [hl1]; unfold mx; omega)
  obtain ⟨f1, hf1⟩ : ∃ f1, f1 = max f b := ⟨_, rfl⟩
  have E1 : Hid (max (f : Int) (b : Int) = (f1 : Int)) := Lib.hid (by rw [hf1]; omega)
  have HF : Hid (spOp L b f l = if f1 ≤ l1 then sp L f1 l1 else L) := Lib.hid (by rw [hf1, hl1]; rfl)
  have hfl1 : f ≤ l1 := by rw [hl1]; unfold mx; omega
  have hfb : f ≤ f1 ∧ b ≤ f1 ∧ (f1 = f ∨ f1 = b) := by rw [hf1]; omega
  clear hl1 hf1
  go_enter Try.func12, Try.ntmps12
  go_upto_region 3 with (fail)
  rw [E0.out]
  obtain ⟨q, hq⟩ : ∃ q, q = w.heap.size := ⟨_, rfl⟩
  obtain ⟨W1, hW1⟩ : ∃ W1, W1 = w.alloc (.cells #[.int .u64 (f : Int), .int .u64 (l1 : Int)] 38) := ⟨_, rfl⟩
  rw [← hW1, ← hq]
  have HQ : Hid (IsBlk W1 q [.int .u64 (f : Int), .int .u64 (l1 : Int)] 38) := Lib.hid (by rw [hW1, hq]; show (w.heap.push _)[w.heap.size]? = _; simp)
  have HT1 : Hid (Touch [] w W1) := Lib.hid (by rw [hW1]; exact HA.out _)
  have HEQ := Lib.hid hq
  have q0 := HQ.out.cell 0
  have q1 := HQ.out.cell 1
  have z0 := HQ.out.frozen 0
  have hql := HQ.out.lt
  have hb1 := H1.out.touch HT1.out (by simp)
  have d1 := hb1.cell 1
  have hl1p := hb1.lt
  simp only [List.getElem?_cons_zero, List.getElem?_cons_succ] at q0 q1 d1
  have n1 : ¬ q = p := by omega
  have n2 : ¬ p = q := by omega
  clear hW1 hq c1 hb1
  by_cases hlb : (l1 : Int) < (b : Int)
  · have tlb : decide (l1 < b) = true := by simp; omega
    go_quiet (fail)
    go_wp2_with fail
    (try simp only [Exit.inBlock, Exit.then])
    refine bodyPost_ret (results_none rfl _ _ _) rfl ?_
    rw [HF.out, if_neg (by omega)]
    exact ⟨rfl, _, HH.out.keep (HT1.out.drewN _), (HT1.out.drewN _).mono (by simp), fun g hg => .inl (by simpa using hg)⟩
  have tlb : decide (l1 < b) = false := by simp; omega
  go_quiet (fail)
  go_wp2_with fail
  go_region
  rw [E1.out]
  go_wp2_with fail
  obtain ⟨W2, hW2⟩ : ∃ W2, W2 = (W1.drewN (nq + 1)).setCell ⟨q, 0, none⟩ (.int .u64 (f1 : Int)) := ⟨_, rfl⟩
  rw [← hW2]
  have HQ2 : Hid (IsBlk W2 q [.int .u64 (f1 : Int), .int .u64 (l1 : Int)] 38) := Lib.hid (by rw [hW2]; exact HQ.out.set 0 _)
  have HT2 : Hid (Touch [] w W2) := Lib.hid (by rw [hW2]; exact (HT1.out.drewN _).set (.inr (by have := HEQ.out; show w.heap.size ≤ q; omega)) _)
  have HB2 := Lib.hid (H1.out.touch HT2.out (by simp))
  have HL2 := Lib.hid (H2.out.touch HT2.out (by simp))
  have HNE : Hid (∀ g ∈ own (Value.slice a L.length c), g ≠ q) := Lib.hid fun g hg e => by have := H2.out.lt g hg; have := HEQ.out; omega
  have HSZ : Hid (w.heap.size ≤ W2.heap.size) := Lib.hid HT2.out.size
  have HST : Hid (f1 ≤ l1 → St L f1 l1 0 false f1 l1 []) := Lib.hid fun h => ⟨by simp, h, hl1', fun _ => ⟨by simp, by simp⟩, by simp⟩
  have hfl2 : f1 ≤ l1 := by omega
  clear hW2 q0 q1 z0 hql d1 hl1p hfb
  go_loopw [4, 5, 6] (fun o pt i wr => ∃ k : Nat, ∃ v : Value, ∃ pb : Bool, ∃ f2 l2 : Nat, ∃ M : List Rng, k ≤ L.length ∧ i = .int .i64 (k : Int) ∧ o = v ∧ pt = .bool pb ∧ Hid (St L f1 l1 k pb f2 l2 M) ∧ Hid (IsBlk wr q [.int .u64 (f2 : Int), .int .u64 (l2 : Int)] 38) ∧ Hid (Sl wr 38 2 v M.length (cr M)) ∧ Hid (Touch [q] W2 wr) ∧ Hid (∀ g ∈ own v, W2.heap.size ≤ g)) (fun _ _ i _ => L.length - (intOf i).toNat)
  case atStart => exact ⟨0, _, false, f1, l1, [], by omega, by simp, rfl, rfl, Lib.hid (HST.out hfl2), HQ2, Lib.hid (by simpa [cr] using Sl.nil _ 38 2), Lib.hid (Touch.refl _ _), Lib.hid (by simp)⟩
  case round =>
    obtain ⟨k, v, pb, f2, l2, M, hk, rfl, rfl, rfl, HS, HQJ, HM, HT, HO⟩ := hrel
    obtain ⟨va, vc, hve, _⟩ := HM.out.form
    subst hve
    have hb1 := HB2.out.touch HT.out (by simpa using fun e => n2 e)
    have HR := Lib.hid (HL2.out.rd.touch HT.out (fun g hg hm => HNE.out g hg (by simpa using hm)))
    have d0 := hb1.cell 0
    have q0 := HQJ.out.cell 0
    have q1 := HQJ.out.cell 1
    have z0 := HQJ.out.frozen 0
    have z1 := HQJ.out.frozen 1
    have y0 := hb1.frozen 0
    simp only [List.getElem?_cons_zero, List.getElem?_cons_succ] at d0 q0 q1
    have hl' := hb1.lt
    have hql := HQJ.out.lt
    have hm1 := HS.out.len
    have hm2 := HS.out.fl
    have hm3 := HS.out.lm
    have HQO : Hid (∀ g ∈ own (Value.slice va M.length vc), g ≠ q) := Lib.hid fun g hg e => by have := HO.out g hg; have := HQ2.out.lt; omega
    have HB3 := Lib.hid hb1
    clear hb1
    by_cases hlt : k < L.length
    · obtain ⟨x, hx⟩ : ∃ x, L[k]? = some x := ⟨_, List.getElem?_eq_getElem hlt⟩
      obtain ⟨g, o, rfl⟩ := HR.out.some (by omega)
      obtain ⟨e1, e2, hg⟩ := HR.out.two rfl _ x hx
      have HX := Lib.hid hx
      have hxm := HV.out.2 x (List.mem_of_getElem? hx)
      have hx2 : x.2 ≤ 4611686018427387903 := hxm.2.2
      have hx12 : x.1 ≤ x.2 := hxm.2.1
      obtain ⟨x1, x2⟩ := x
      simp only at e1 e2 hx2 hx12
      clear hx hxm
      have hlt' : (k : Int) < (L.length : Int) := by omega
      cases pb with
      | true =>
        have t1 := (HS.out.yes rfl).2 k (x1, x2) (by omega) HX.out
        simp only at t1
        have i1 : ¬ (x2 : Int) + 1 < (f2 : Int) := by omega
        have i2 : (l2 : Int) + 1 < (x1 : Int) := by omega
        go_wp2_with (at_builtin; refine wpList_append_sl _ rfl (.tmp 88) (.tmp 90) 27 rfl 38 i0 _ 2 16 under27 hi0 hz0 hz1 hz2 rfl (by omega) (.slice va M.length vc) M.length (cr M) rfl (HM.out.touch (ks := []) (by (repeat (first | exact Touch.refl _ _ | refine Touch.drewN ?_ _ | refine Touch.drew ?_ | refine Touch.alloc ?_ _))) (by simp)) (.slice (some ⟨wr.heap.size + 1, 0, none⟩) 1 1) 1 (cr [(x1, x2)]) rfl (Rd.newI (wr.alloc (.cells #[.int .u64 (x1 : Int), .int .u64 (x2 : Int)] 38)) (wr.heap.size + 1) (x1 : Int) (x2 : Int) (x1, x2) rfl rfl (by simp)) (cr_one _) (by unfold maxLen; omega) (by omega) fun a3 c3 w3 k1 k2 k3 k4 => ?_)
        go_roundw
        case rel =>
          refine ⟨k + 1, _, true, f2, l2, M ++ [(x1, x2)], by omega, by go_num, rfl, rfl, Lib.hid (HS.out.past HX.out (by omega)), ?_, ?_, ?_, ?_⟩
          · exact Lib.hid ((HQJ.out.touch (ks := []) (by (repeat (first | exact Touch.refl _ _ | refine Touch.drewN ?_ _ | refine Touch.drew ?_ | refine Touch.alloc ?_ _))) (by simp)).touch k2 (fun hm => HQO.out q hm rfl))
          · exact Lib.hid (by rw [List.length_append, cr_append]; exact k1)
          · exact Lib.hid ((HT.out.trans (js := []) (by (repeat (first | exact Touch.refl _ _ | refine Touch.drewN ?_ _ | refine Touch.drew ?_ | refine Touch.alloc ?_ _))) (by simp)).trans k2 (fun g hg => .inr (HO.out g hg)))
          · exact Lib.hid (fun g hg => (k3 g hg).elim (HO.out g) (fun h => by have := HT.out.size; simp at h; omega))
        case measure => simp [intOf]; omega
      | false =>
        by_cases i1 : (x2 : Int) + 1 < (f2 : Int)
        · go_wp2_with (at_builtin; refine wpList_append_sl _ rfl (.tmp 71) (.tmp 73) 27 rfl 38 i0 _ 2 16 under27 hi0 hz0 hz1 hz2 rfl (by omega) (.slice va M.length vc) M.length (cr M) rfl (HM.out.touch (ks := []) (by (repeat (first | exact Touch.refl _ _ | refine Touch.drewN ?_ _ | refine Touch.drew ?_ | refine Touch.alloc ?_ _))) (by simp)) (.slice (some ⟨wr.heap.size + 1, 0, none⟩) 1 1) 1 (cr [(x1, x2)]) rfl (Rd.newI (wr.alloc (.cells #[.int .u64 (x1 : Int), .int .u64 (x2 : Int)] 38)) (wr.heap.size + 1) (x1 : Int) (x2 : Int) (x1, x2) rfl rfl (by simp)) (cr_one _) (by unfold maxLen; omega) (by omega) fun a3 c3 w3 k1 k2 k3 k4 => ?_)
          go_roundw
          case rel =>
            refine ⟨k + 1, _, false, f2, l2, M ++ [(x1, x2)], by omega, by go_num, rfl, rfl, Lib.hid (HS.out.out HX.out (by show x2 + 1 < f2; omega)), ?_, ?_, ?_, ?_⟩
            · exact Lib.hid ((HQJ.out.touch (ks := []) (by (repeat (first | exact Touch.refl _ _ | refine Touch.drewN ?_ _ | refine Touch.drew ?_ | refine Touch.alloc ?_ _))) (by simp)).touch k2 (fun hm => HQO.out q hm rfl))
            · exact Lib.hid (by rw [List.length_append, cr_append]; exact k1)
            · exact Lib.hid ((HT.out.trans (js := []) (by (repeat (first | exact Touch.refl _ _ | refine Touch.drewN ?_ _ | refine Touch.drew ?_ | refine Touch.alloc ?_ _))) (by simp)).trans k2 (fun g hg => .inr (HO.out g hg)))
            · exact Lib.hid (fun g hg => (k3 g hg).elim (HO.out g) (fun h => by have := HT.out.size; simp at h; omega))
          case measure => simp [intOf]; omega
        · by_cases i2 : (l2 : Int) + 1 < (x1 : Int)
          · go_wp2_with (first | (at_builtin; refine wpList_append_sl _ rfl (.tmp 84) (.tmp 86) 27 rfl 38 i0 _ 2 16 under27 hi0 hz0 hz1 hz2 rfl (by omega) (.slice va M.length vc) M.length (cr M) rfl (HM.out.touch (ks := []) (by (repeat (first | exact Touch.refl _ _ | refine Touch.drewN ?_ _ | refine Touch.drew ?_ | refine Touch.alloc ?_ _))) (by simp)) (.slice (some ⟨wr.heap.size + 1, 0, none⟩) 1 1) 1 (cr [(f2, l2)]) rfl (Rd.newI (wr.alloc (.cells #[.int .u64 (x1 : Int), .int .u64 (x2 : Int)] 38)) (wr.heap.size + 1) (f2 : Int) (l2 : Int) (f2, l2) rfl rfl (by simp)) (cr_one _) (by unfold maxLen; omega) (by omega) fun a4 c4 w4 m1 m2 m3 m4 => ?_; have HX4 := Lib.hid (((IsBlk.new wr [.int .u64 (x1 : Int), .int .u64 (x2 : Int)] 38).alloc (.cells #[.int .u64 (f2 : Int), .int .u64 (l2 : Int)] 38)).touch m2 (fun hm => by have := HM.out.lt _ hm; omega)); have x0 := HX4.out.cell 0; have x3 := HX4.out.cell 1; have xl := HX4.out.lt; simp only [List.getElem?_cons_zero, List.getElem?_cons_succ] at x0 x3; have M1 := Lib.hid m1; have M2 := Lib.hid m2; have M3 := Lib.hid m3; clear m1 m2 m3 m4) | (at_builtin; refine wpList_append_sl _ rfl (.tmp 88) (.tmp 90) 27 rfl 38 i0 _ 2 16 under27 hi0 hz0 hz1 hz2 rfl (by omega) (.slice a4 (M.length + 1) c4) (M.length + 1) (cr M ++ cr [(f2, l2)]) rfl (M1.out.touch (ks := []) (by (repeat (first | exact Touch.refl _ _ | refine Touch.drewN ?_ _ | refine Touch.drew ?_ | refine Touch.alloc ?_ _))) (by simp)) (.slice (some ⟨w4.heap.size, 0, none⟩) 1 1) 1 (cr [(x1, x2)]) rfl (Rd.newI w4 w4.heap.size (x1 : Int) (x2 : Int) (x1, x2) rfl rfl rfl) (cr_one _) (by unfold maxLen; omega) (by omega) fun a3 c3 w3 k1 k2 k3 k4 => ?_))
            go_roundw
            case rel =>
              have T4 : Touch [q] W2 w4 := (HT.out.trans (js := []) (by (repeat (first | exact Touch.refl _ _ | refine Touch.drewN ?_ _ | refine Touch.drew ?_ | refine Touch.alloc ?_ _))) (by simp)).trans M2.out (fun g hg => .inr (HO.out g hg))
              have O4 : ∀ g ∈ own (Value.slice a4 (M.length + 1) c4), W2.heap.size ≤ g := fun g hg => (M3.out g hg).elim (HO.out g) (fun h => by have := HT.out.size; simp at h; omega)
              refine ⟨k + 1, _, true, f2, l2, M ++ [(f2, l2)] ++ [(x1, x2)], by omega, by go_num, rfl, rfl, Lib.hid (HS.out.put HV.out HX.out (by show ¬ x2 + 1 < f2; omega) (by show l2 + 1 < x1; omega)), ?_, ?_, ?_, ?_⟩
              · exact Lib.hid ((((HQJ.out.touch (ks := []) (by (repeat (first | exact Touch.refl _ _ | refine Touch.drewN ?_ _ | refine Touch.drew ?_ | refine Touch.alloc ?_ _))) (by simp)).touch M2.out (fun hm => HQO.out q hm rfl)).touch (ks := []) (by (repeat (first | exact Touch.refl _ _ | refine Touch.drewN ?_ _ | refine Touch.drew ?_ | refine Touch.alloc ?_ _))) (by simp)).touch k2 (fun hm => by have := O4 _ hm; have := HQ2.out.lt; omega))
              · exact Lib.hid (by rw [List.length_append, List.length_append, cr_append, cr_append]; exact k1)
              · exact Lib.hid ((T4.trans (js := []) (by (repeat (first | exact Touch.refl _ _ | refine Touch.drewN ?_ _ | refine Touch.drew ?_ | refine Touch.alloc ?_ _))) (by simp)).trans k2 (fun g hg => .inr (O4 g hg)))
              · exact Lib.hid (fun g hg => (k3 g hg).elim (O4 g) (fun h => by have := T4.size; simp at h; omega))
            case measure => simp [intOf]; omega
          · obtain ⟨f3, hf3⟩ : ∃ f3, f3 = min f2 x1 := ⟨_, rfl⟩
            obtain ⟨l3, hl3⟩ : ∃ l3, l3 = max l2 x2 := ⟨_, rfl⟩
            have E3 : Hid (min (f2 : Int) (x1 : Int) = (f3 : Int)) := Lib.hid (by omega)
            have E4 : Hid (max (l2 : Int) (x2 : Int) = (l3 : Int)) := Lib.hid (by omega)
            have HJ : Hid (St L f1 l1 (k + 1) false f3 l3 M) := Lib.hid (by rw [hf3, hl3]; exact HS.out.join HV.out HX.out (by show ¬ x2 + 1 < f2; omega) (by show ¬ l2 + 1 < x1; omega))
            clear hf3 hl3
            go_wp2_with fail
            go_roundw
            case rel =>
              refine ⟨k + 1, _, false, f3, l3, M, by omega, by go_num, rfl, rfl, HJ, ?_, ?_, Lib.hid (by (repeat (first | exact HT.out | refine Touch.drewN ?_ _ | refine Touch.drew ?_ | refine Touch.alloc ?_ _ | refine Touch.set ?_ (.inl (by simp)) _))), HO⟩
              · exact Lib.hid (by rw [← E3.out, ← E4.out]; exact ((HQJ.out.set 0 _).set 1 _).alloc _)
              · exact Lib.hid (HM.out.touch (ks := [q]) (by (repeat (first | exact Touch.refl _ _ | refine Touch.alloc ?_ _ | refine Touch.set ?_ (.inl (by simp)) _))) (fun g hg hm => HQO.out g hg (by simpa using hm)))
            case measure => simp [intOf]; omega
    · obtain rfl : k = L.length := by omega
      cases pb with
      | true =>
        go_wp2_with fail
        go_end0
        have e1 : spOp L b f l = M := by rw [HF.out, if_pos hfl2]; exact HS.out.end_yes
        refine ⟨rfl, p :: own (.slice va M.length vc), ⟨va, vc, ?_, ?_, ?_, ?_, ?_, ?_⟩, ?_, ?_⟩
        · rw [e1]
          exact (HB3.out).set 0 _
        · rw [e1]
          exact HM.out.touch ((Touch.refl [p] _).set (.inl (by simp)) _) (fun g hg hp => by have := HO.out g hg; have := HSZ.out; simp at hp; omega)
        · rw [e1]
        · rw [e1]
          intro hp
          have := HO.out p hp
          have := HSZ.out
          omega
        · exact spOp_V HV.out f l
        · exact HH.out.v.2
        · exact ((((HT2.out.trans HT.out (fun g hg => .inr (by have := HEQ.out; simp at hg; omega))).mono (js := p :: own (Value.slice a L.length c)) (by simp))).set (.inl (by simp)) _)
        · intro g hg
          rcases List.mem_cons.1 hg with rfl | hg
          · exact .inl (by simp)
          · exact .inr (by have := HO.out g hg; have := HSZ.out; omega)
      | false =>
        go_wp2_with (at_builtin; refine wpList_append_sl _ rfl (.tmp 94) (.tmp 96) 27 rfl 38 i0 _ 2 16 under27 hi0 hz0 hz1 hz2 rfl (by omega) (.slice va M.length vc) M.length (cr M) rfl (HM.out.touch (ks := []) (by (repeat (first | exact Touch.refl _ _ | refine Touch.drewN ?_ _ | refine Touch.drew ?_ | refine Touch.alloc ?_ _))) (by simp)) (.slice (some ⟨wr.heap.size, 0, none⟩) 1 1) 1 (cr [(f2, l2)]) rfl (Rd.newI wr wr.heap.size (f2 : Int) (l2 : Int) (f2, l2) rfl rfl rfl) (cr_one _) (by unfold maxLen; omega) (by omega) fun a3 c3 w3 k1 k2 k3 k4 => ?_; have HB5 := Lib.hid ((HB3.out.touch (ks := []) (by (repeat (first | exact Touch.refl _ _ | refine Touch.drewN ?_ _ | refine Touch.drew ?_ | refine Touch.alloc ?_ _))) (by simp)).touch k2 (fun hm => by have := HO.out _ hm; have := HSZ.out; omega)); have b0 := HB5.out.cell 0; have b1 := HB5.out.frozen 0; have bl := HB5.out.lt; simp only [List.getElem?_cons_zero] at b0; have K1 : Hid (Sl w3 38 2 (.slice a3 (M ++ [(f2, l2)]).length c3) (M ++ [(f2, l2)]).length (cr (M ++ [(f2, l2)]))) := Lib.hid (by rw [List.length_append, cr_append]; exact k1); have K2 := Lib.hid k2; have K3 := Lib.hid k3; clear k1 k2 k3 k4)
        have O5 : ∀ g ∈ own (Value.slice a3 (M ++ [(f2, l2)]).length c3), W2.heap.size ≤ g := fun g hg => (K3.out g (by rw [List.length_append] at hg; exact hg)).elim (HO.out g) (fun h => by have := HT.out.size; simp at h; omega)
        go_end0
        have e1 : spOp L b f l = M ++ [(f2, l2)] := by rw [HF.out, if_pos hfl2]; exact HS.out.end_no
        refine ⟨rfl, p :: own (.slice a3 (M ++ [(f2, l2)]).length c3), ⟨a3, c3, ?_, ?_, ?_, ?_, ?_, ?_⟩, ?_, ?_⟩
        · rw [e1, List.length_append]
          exact (HB5.out).set 0 _
        · rw [e1]
          exact K1.out.touch ((Touch.refl [p] _).set (.inl (by simp)) _) (fun g hg hp => by have := O5 g hg; have := HSZ.out; simp at hp; omega)
        · rw [e1]
        · rw [e1]
          intro hp
          have := O5 p hp
          have := HSZ.out
          omega
        · exact spOp_V HV.out f l
        · exact HH.out.v.2
        · exact ((((HT2.out.trans HT.out (fun g hg => .inr (by have := HEQ.out; simp at hg; omega))).mono (js := p :: own (Value.slice a L.length c)) (by simp)).trans (js := own (Value.slice va M.length vc)) ((Touch.refl _ _).trans (js := []) (by (repeat (first | exact Touch.refl _ _ | refine Touch.drewN ?_ _ | refine Touch.drew ?_ | refine Touch.alloc ?_ _))) (by simp) |>.trans K2.out (fun g hg => .inl hg)) (fun g hg => .inr (by have := HO.out g hg; have := HSZ.out; omega))).set (.inl (by simp)) _)
        · intro g hg
          rcases List.mem_cons.1 hg with rfl | hg
          · exact .inl (by simp)
          · exact .inr (by have := O5 g hg; have := HSZ.out; omega)
end Go.Proofs.Ytbijoeemioeejaa
