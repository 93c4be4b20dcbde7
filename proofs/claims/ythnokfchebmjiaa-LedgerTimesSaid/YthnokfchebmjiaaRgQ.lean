/- The contract of the program's Span. Conditions: the set has fewer than 2^40 ranges. -/
import Derived.Test.YthnokfchebmjiaaRgN
import Derived.BigRegion
import Derived.Test.YthnokfchebmjiaaH
namespace Go.Proofs.Ythnokfchebmjiaa
open Go.RowKit

/-- A range in a block of its own. -/
theorem Sl.new (w : World) (x : Rng) : Sl (w.alloc (.cells #[.int .u64 (x.1 : Int), .int .u64 (x.2 : Int)] 35)) 35 2 (.slice (Option.some ⟨w.heap.size, 0, none⟩) 1 1) 1 (cr [x]) := by
  refine ⟨rfl, .inr ⟨w.heap.size, 0, 1, rfl, by omega, by unfold maxLen; omega, fun _ => ⟨#[.int .u64 (x.1 : Int), .int .u64 (x.2 : Int)], ?_, by simp, fun j hj => ?_⟩⟩⟩
  · show (w.heap.push _)[w.heap.size]? = _
    simp
  · match j, hj with
    | 0, _ => rfl
    | 1, _ => rfl

theorem all_lo {L : List Rng} {b k f : Nat} (hV : V L b) (h : ∀ x, L[k]? = some x → f ≤ x.2 + 1) : ∀ j x, k ≤ j → L[j]? = some x → f ≤ x.2 + 1 := by
  intro j x hj hx
  rcases Nat.lt_or_eq_of_le hj with hlt | rfl
  · obtain ⟨hjl, hxe⟩ := List.getElem?_eq_some_iff.1 hx
    have hk : k < L.length := by omega
    have h1 := List.pairwise_iff_getElem.1 hV.1 k j hk hjl hlt
    have h2 := h L[k] (List.getElem?_eq_getElem hk)
    have h3 := hV.2 x (List.mem_of_getElem? hx)
    have h4 := hV.2 L[k] (List.getElem_mem _)
    rw [hxe] at h1
    omega
  · exact h x hx

set_option maxRecDepth 100000 in
set_option maxHeartbeats 4000000 in
theorem span_any (w : World) (p : Nat) (F : List Nat) (L : List Rng) (b f l : Nat) (h : IsS w p 79 F L b) (hb : L.length ≤ 1099511627776) (_hf : f < 18446744073709551616) (hl64 : l < 18446744073709551616) :
    Calls Try.prog 38 #[.pointer (some ⟨p, 0, none⟩), .agg #[.int .u64 (f : Int), .int .u64 (l : Int)]] w fun e w' => e = .returned (.tuple #[]) ∧ ∃ F', IsS w' p 79 F' (spOp L b f l) b ∧ Touch F w w' ∧ ∀ g ∈ F', g ∈ F ∨ w.heap.size ≤ g := by
  have HH := Lib.hid h
  obtain ⟨a, c, h1, h2, rfl, h5, h6⟩ := h
  have H1 := Lib.hid h1
  have H2 := Lib.hid h2
  have c1 := h1.cell 1
  simp only [List.getElem?_cons_zero, List.getElem?_cons_succ] at c1
  have hl := h1.lt
  have hbx : b ≤ 4611686018427387903 := h6.2
  have HV := Lib.hid h6.1
  have H5 := Lib.hid h5
  clear h1 h2 h5 h6
  go_enter Try.func38, Try.ntmps38
  go_wp2_with fail
  go_region
  obtain ⟨f1, hf1⟩ : ∃ f1, f1 = max f b := ⟨_, rfl⟩
  obtain ⟨l1, hl1⟩ : ∃ l1, l1 = min l mx := ⟨_, rfl⟩
  have hl1' : l1 ≤ 4611686018427387903 := by rw [hl1]; exact Nat.min_le_right _ _
  rw [show max (f : Int) (b : Int) = (f1 : Int) from by omega, show min (l : Int) 4611686018427387903 = (l1 : Int) from by rw [hl1]; unfold mx; omega]
  obtain ⟨W0, hW0⟩ : ∃ W0, W0 = (w.alloc (.cells #[.int .u64 (f1 : Int), .int .u64 (l1 : Int)] 35)).drew := ⟨_, rfl⟩
  rw [← hW0]
  obtain ⟨q, hq⟩ : ∃ q, q = w.heap.size := ⟨_, rfl⟩
  rw [← hq]
  have HQ : Hid (IsBlk W0 q [.int .u64 (f1 : Int), .int .u64 (l1 : Int)] 35) := Lib.hid (by rw [hW0, hq]; show (w.heap.push _)[w.heap.size]? = _; simp)
  have HT0 : Hid (Touch [] w W0) := Lib.hid (by rw [hW0]; exact ((Touch.refl _ _).alloc _).drew)
  have HS0 := Lib.hid (HH.out.keep HT0.out)
  have HB0 := Lib.hid (H1.out.touch HT0.out (by simp))
  have HL0 := Lib.hid (H2.out.touch HT0.out (by simp))
  have HF : Hid (spOp L b f l = if f1 ≤ l1 then sp L f1 l1 else L) := Lib.hid (by rw [hf1, hl1]; rfl)
  have q0 := HQ.out.cell 0
  have q1 := HQ.out.cell 1
  have hql := HQ.out.lt
  simp only [List.getElem?_cons_zero, List.getElem?_cons_succ] at q0 q1
  have HEQ := Lib.hid hq
  have HF1 := Lib.hid hf1
  clear hW0 c1 hq hf1 hl1
  by_cases hfl : (l1 : Int) < (f1 : Int)
  · go_wp2_with fail
    (try simp only [Exit.inBlock, Exit.then])
    refine bodyPost_ret (results_none rfl _ _ _) rfl ?_
    rw [HF.out, if_neg (by omega)]
    exact ⟨rfl, _, HS0.out, HT0.out.mono (by simp), fun g hg => .inl hg⟩
  have hfl' : f1 ≤ l1 := by omega
  go_upto_block 0 with (fail)
  go_cut [4] (fun s4 wx => ∃ k : Nat, k ≤ L.length ∧ s4 = .int .i64 (k : Int) ∧ Hid (L.take k ++ sp (L.drop k) f1 l1 = sp L f1 l1) ∧ Hid (∀ x, L[k]? = some x → f1 ≤ x.2 + 1) ∧ Touch [] W0 wx)
  case first =>
    clear q0 q1 hql
    go_wp2_with fail
    go_loopw [4] (fun i wr => ∃ k : Nat, k ≤ L.length ∧ i = .int .i64 (k : Int) ∧ Hid (L.take k ++ sp (L.drop k) f1 l1 = sp L f1 l1) ∧ Touch [] W0 wr) (fun i _ => L.length - (intOf i).toNat)
    case atStart => exact ⟨0, by omega, rfl, Lib.hid (by simp), Touch.refl _ _⟩
    case round =>
      obtain ⟨k, hk, rfl, HE, hT⟩ := hrel
      have HT := Lib.hid hT
      have hb := HB0.out.touch hT (by simp)
      have hq := HQ.out.touch hT (by simp)
      have HR := Lib.hid (HL0.out.rd.touch hT (by simp))
      have d0 := hb.cell 0
      have q0 := hq.cell 0
      simp only [List.getElem?_cons_zero] at d0 q0
      have hl' := hb.lt
      have hql' := hq.lt
      clear hb hq hT
      by_cases hlt : k < L.length
      · obtain ⟨x, hx⟩ : ∃ x, L[k]? = some x := ⟨_, List.getElem?_eq_getElem hlt⟩
        obtain ⟨g, o, rfl⟩ := HR.out.some (by omega)
        obtain ⟨e1, e2, hg⟩ := HR.out.two rfl _ x hx
        have HX := Lib.hid hx
        obtain ⟨x1, x2⟩ := x
        simp only at e1 e2
        clear hx
        have t29 : decide (k < L.length) = true := by simpa using hlt
        have hlt' : (k : Int) < (L.length : Int) := by omega
        by_cases i1 : x2 < f1
        · have t41 : decide (x2 < f1) = true := by simpa using i1
          have i1' : (x2 : Int) < (f1 : Int) := by omega
          by_cases i2 : x2 + 1 < f1
          · have t55 : decide ((1 : Int) < (f1 : Int) - (x2 : Int)) = true := by simp; omega
            have i2' : (1 : Int) < (f1 : Int) - (x2 : Int) := by omega
            go_wp2_with fail
            go_quiet (fail)
            go_wp2_with fail
            go_roundw
            case rel => exact ⟨k + 1, by omega, by go_num, Lib.hid (by rw [← sp_skip HX.out i2]; exact HE.out), HT.out.drewN _⟩
            case measure => simp [intOf]; omega
          · have t55 : decide ((1 : Int) < (f1 : Int) - (x2 : Int)) = false := by simp; omega
            have i2' : ¬ (1 : Int) < (f1 : Int) - (x2 : Int) := by omega
            go_wp2_with fail
            go_quiet (fail)
            go_wp2_with fail
            go_meet
            case rel => exact ⟨k, hk, rfl, HE, Lib.hid (by rw [HX.out]; intro x hx; simp at hx; subst hx; show f1 ≤ x2 + 1; omega), HT.out.drewN _⟩
        · have t41 : decide (x2 < f1) = false := by simpa using i1
          have i1' : ¬ (x2 : Int) < (f1 : Int) := by omega
          go_wp2_with fail
          go_quiet (fail)
          go_wp2_with fail
          go_meet
          case rel => exact ⟨k, hk, rfl, HE, Lib.hid (by rw [HX.out]; intro x hx; simp at hx; subst hx; show f1 ≤ x2 + 1; omega), HT.out.drewN _⟩
      · obtain rfl : k = L.length := by omega
        have t29 : decide (L.length < L.length) = false := by simp
        go_wp2_with fail
        go_quiet (fail)
        go_wp2_with fail
        go_meet
        case rel => exact ⟨L.length, by omega, rfl, HE, Lib.hid (by simp), HT.out.drewN _⟩
  case rest =>
    obtain ⟨k, hk, rfl, HE, HST, hT⟩ := hcut
    have HALL := Lib.hid (all_lo HV.out HST.out)
    have HT := Lib.hid hT
    have HBC := Lib.hid (HB0.out.touch hT (by simp))
    have HQC := Lib.hid (HQ.out.touch hT (by simp))
    have HLC := Lib.hid (HL0.out.touch hT (by simp))
    have HNE : Hid (q ≠ p ∧ ∀ g ∈ own (Value.slice a L.length c), g ≠ q) := Lib.hid ⟨by have := HEQ.out; omega, fun g hg e => by have := H2.out.lt g hg; have := HEQ.out; omega⟩
    clear hT hl64 hbx
    go_upto_block 2 with (fail)
    go_cut [5] (fun s5 wx => ∃ j f2 l2 : Nat, k ≤ j ∧ j ≤ L.length ∧ s5 = .int .i64 (j : Int) ∧ Hid (IsBlk wx q [.int .u64 (f2 : Int), .int .u64 (l2 : Int)] 35) ∧ Hid (sp (L.drop k) f1 l1 = (f2, l2) :: L.drop j) ∧ Touch [q] wc wx)
    case first =>
      clear q0 q1 hql
      go_wp2_with fail
      go_loopw [5] (fun i wr => ∃ j f2 l2 : Nat, k ≤ j ∧ j ≤ L.length ∧ i = .int .i64 (j : Int) ∧ f2 ≤ f1 ∧ l2 ≤ 4611686018427387903 ∧ Hid (IsBlk wr q [.int .u64 (f2 : Int), .int .u64 (l2 : Int)] 35) ∧ Hid (sp (L.drop k) f1 l1 = sp (L.drop j) f2 l2) ∧ Touch [q] wc wr) (fun i _ => L.length - (intOf i).toNat)
      case atStart => exact ⟨k, f1, l1, by omega, hk, rfl, by omega, hl1', HQC, Lib.hid rfl, Touch.refl _ _⟩
      case round =>
        obtain ⟨j, f2, l2, hkj, hj, rfl, hf2, hl2, HQJ, HJ, hT⟩ := hrel
        have HTJ := Lib.hid hT
        have hb := HBC.out.touch hT (by simp; exact fun e => HNE.out.1 e.symm)
        have HR := Lib.hid (HLC.out.rd.touch hT (fun g hg hm => HNE.out.2 g hg (by simpa using hm)))
        have d0 := hb.cell 0
        have q0 := HQJ.out.cell 0
        have q1 := HQJ.out.cell 1
        have z0 := HQJ.out.frozen 0
        have z1 := HQJ.out.frozen 1
        simp only [List.getElem?_cons_zero, List.getElem?_cons_succ] at d0 q0 q1
        have hl' := hb.lt
        have hql' := HQJ.out.lt
        clear hb hT
        by_cases hlt : j < L.length
        · obtain ⟨x, hx⟩ : ∃ x, L[j]? = some x := ⟨_, List.getElem?_eq_getElem hlt⟩
          obtain ⟨g, o, rfl⟩ := HR.out.some (by omega)
          obtain ⟨e1, e2, hg⟩ := HR.out.two rfl _ x hx
          have HX := Lib.hid hx
          have n1 : ¬ q = p := HNE.out.1
          have n2 : ¬ p = q := fun e => HNE.out.1 e.symm
          have n3 : ¬ g = q := HNE.out.2 g (by have := HLC.out.at.1; rw [own_some _ _ _ (by omega)]; simp)
          have n4 : ¬ q = g := fun e => n3 e.symm
          have hlo : ¬ x.2 + 1 < f2 := by have := HALL.out j x hkj hx; omega
          have hxm := HV.out.2 x (List.mem_of_getElem? hx)
          have hx2 : x.2 ≤ 4611686018427387903 := hxm.2.2
          have hx1 : x.1 ≤ 4611686018427387903 := by have := hxm.2.1; omega
          obtain ⟨x1, x2⟩ := x
          simp only at e1 e2 hlo hx2 hx1
          clear hx hxm
          have t29 : decide (j < L.length) = true := by simpa using hlt
          have hlt' : (j : Int) < (L.length : Int) := by omega
          obtain ⟨f3, hf3⟩ : ∃ f3, f3 = min f2 x1 := ⟨_, rfl⟩
          obtain ⟨l3, hl3⟩ : ∃ l3, l3 = max l2 x2 := ⟨_, rfl⟩
          have E1 : Hid (min (f2 : Int) (x1 : Int) = (f3 : Int)) := Lib.hid (by omega)
          have E2 : Hid (max (l2 : Int) (x2 : Int) = (l3 : Int)) := Lib.hid (by omega)
          have HREL : Hid (¬ l2 + 1 < x1 → sp (L.drop k) f1 l1 = sp (L.drop (j + 1)) f3 l3) := Lib.hid (fun h2 => by rw [hf3, hl3, HJ.out, sp_join HX.out hlo h2])
          have hf3' : f3 ≤ f1 := by omega
          have hl3' : l3 ≤ 4611686018427387903 := by omega
          clear hf3 hl3
          by_cases i1 : x1 ≤ l2
          · have t41 : decide (x1 ≤ l2) = true := by simpa using i1
            have i1' : (x1 : Int) ≤ (l2 : Int) := by omega
            go_wp2_with fail
            go_quiet (fail)
            go_wp2_with fail
            refine wp_region_hold (fun w' => w'.cell? ⟨p, 0, none⟩ = some (.slice (some ⟨g, o, none⟩) L.length c) ∧ w'.cell? ⟨g, o + j * 2, none⟩ = some (.int .u64 (x1 : Int)) ∧ w'.cell? ⟨g, o + j * 2 + 1, none⟩ = some (.int .u64 (x2 : Int))) (fun w' => w'.cell? ⟨q, 0, none⟩ = some (.int .u64 (f2 : Int)) ∧ w'.cell? ⟨q, 1, none⟩ = some (.int .u64 (l2 : Int))) [23, 25] [false, false, false, false, false, false, false, false, false, false, false, false, false, false, false, false, false, false, false, false, false, false, false, false, false, false] (by kernel_rfl) (by kernel_rfl) (by go_keep) (by go_keep) (fun hS => ?_)
            refine wpAnyG_take (i := 0) (v := ?_) rfl (by kernel_rfl) (by kernel_rfl) (by kernel_rfl) (by kernel_rfl) (fun _ _ _ h => h) (Or.inl ⟨by rfl, ?_⟩) hS (fun hT => ?_)
            rotate_left
            · intro w hC; (try dsimp only at hC); go_simp; try with_reducible rfl
            clear hS
            have hS := hT
            clear hT
            simp only [Act.put, List.setIfInBounds_toArray, List.set_cons_zero] at hS ⊢
            refine wpAnyG_take1 (i := 1) (v := ?_) rfl (by kernel_rfl) (by kernel_rfl) (by kernel_rfl) (by kernel_rfl) (by kernel_rfl) (by kernel_rfl) (fun _ _ _ h => h) (Or.inl ⟨by rfl, ?_⟩) hS (fun hT => ?_)
            rotate_left
            · intro w hC; (try dsimp only at hC); go_simp; try with_reducible rfl
            clear hS
            have hS := hT
            clear hT
            simp only [Act.put, List.setIfInBounds_toArray, List.set_cons_zero, List.set_cons_succ] at hS ⊢
            refine wpAnyG_take (i := 2) (v := ?_) rfl (by kernel_rfl) (by kernel_rfl) (by kernel_rfl) (by kernel_rfl) (fun _ _ _ h => h) (Or.inl ⟨by rfl, ?_⟩) hS (fun hT => ?_)
            rotate_left
            · intro w hC; (try dsimp only at hC); go_simp; try with_reducible rfl
            clear hS
            have hS := hT
            clear hT
            simp only [Act.put, List.setIfInBounds_toArray, List.set_cons_zero, List.set_cons_succ] at hS ⊢
            refine wpAnyG_take (i := 3) (v := ?_) rfl (by kernel_rfl) (by kernel_rfl) (by kernel_rfl) (by kernel_rfl) (fun _ _ _ h => h) (Or.inl ⟨by rfl, ?_⟩) hS (fun hT => ?_)
            rotate_left
            · intro w hC; (try dsimp only at hC); go_simp; try with_reducible rfl
            clear hS
            have hS := hT
            clear hT
            simp only [Act.put, List.setIfInBounds_toArray, List.set_cons_zero, List.set_cons_succ] at hS ⊢
            refine wpAnyG_take (i := 4) (v := ?_) rfl (by kernel_rfl) (by kernel_rfl) (by kernel_rfl) (by kernel_rfl) (fun _ _ _ h => h) (Or.inl ⟨by rfl, ?_⟩) hS (fun hT => ?_)
            rotate_left
            · intro w hC; (try dsimp only at hC); go_simp; try with_reducible rfl
            clear hS
            have hS := hT
            clear hT
            simp only [Act.put, List.setIfInBounds_toArray, List.set_cons_zero, List.set_cons_succ] at hS ⊢
            refine wpAnyG_take (i := 5) (v := ?_) rfl (by kernel_rfl) (by kernel_rfl) (by kernel_rfl) (by kernel_rfl) (fun _ _ _ h => h) (Or.inl ⟨by rfl, ?_⟩) hS (fun hT => ?_)
            rotate_left
            · intro w hC; (try dsimp only at hC); go_simp; try with_reducible rfl
            clear hS
            have hS := hT
            clear hT
            simp only [Act.put, List.setIfInBounds_toArray, List.set_cons_zero, List.set_cons_succ] at hS ⊢
            refine wpAnyG_take (i := 6) (v := ?_) rfl (by kernel_rfl) (by kernel_rfl) (by kernel_rfl) (by kernel_rfl) (fun _ _ _ h => h) (Or.inl ⟨by rfl, ?_⟩) hS (fun hT => ?_)
            rotate_left
            · intro w hC; (try dsimp only at hC); go_simp; try with_reducible rfl
            clear hS
            have hS := hT
            clear hT
            simp only [Act.put, List.setIfInBounds_toArray, List.set_cons_zero, List.set_cons_succ] at hS ⊢
            refine wpAnyG_take (i := 7) (v := ?_) rfl (by kernel_rfl) (by kernel_rfl) (by kernel_rfl) (by kernel_rfl) (fun _ _ _ h => h) (Or.inl ⟨by rfl, ?_⟩) hS (fun hT => ?_)
            rotate_left
            · intro w hC; (try dsimp only at hC); go_simp; try with_reducible rfl
            clear hS
            have hS := hT
            clear hT
            simp only [Act.put, List.setIfInBounds_toArray, List.set_cons_zero, List.set_cons_succ] at hS ⊢
            refine wpAnyG_take (i := 8) (v := ?_) rfl (by kernel_rfl) (by kernel_rfl) (by kernel_rfl) (by kernel_rfl) (fun _ _ _ h => h) (Or.inl ⟨by rfl, ?_⟩) hS (fun hT => ?_)
            rotate_left
            · intro w hC; (try dsimp only at hC); go_simp; try with_reducible rfl
            clear hS
            have hS := hT
            clear hT
            simp only [Act.put, List.setIfInBounds_toArray, List.set_cons_zero, List.set_cons_succ] at hS ⊢
            refine wpAnyG_take (i := 9) (v := ?_) rfl (by kernel_rfl) (by kernel_rfl) (by kernel_rfl) (by kernel_rfl) (fun _ _ _ h => h) (Or.inl ⟨by rfl, ?_⟩) hS (fun hT => ?_)
            rotate_left
            · intro w hC; (try dsimp only at hC); go_simp; try with_reducible rfl
            clear hS
            have hS := hT
            clear hT
            simp only [Act.put, List.setIfInBounds_toArray, List.set_cons_zero, List.set_cons_succ] at hS ⊢
            refine wpAnyG_take (i := 10) (v := ?_) rfl (by kernel_rfl) (by kernel_rfl) (by kernel_rfl) (by kernel_rfl) (fun _ _ _ h => h) (Or.inl ⟨by rfl, ?_⟩) hS (fun hT => ?_)
            rotate_left
            · intro w hC; (try dsimp only at hC); go_simp; try with_reducible rfl
            clear hS
            have hS := hT
            clear hT
            simp only [Act.put, List.setIfInBounds_toArray, List.set_cons_zero, List.set_cons_succ] at hS ⊢
            refine wpAnyG_take (i := 11) (v := ?_) rfl (by kernel_rfl) (by kernel_rfl) (by kernel_rfl) (by kernel_rfl) (fun _ _ _ h => h) (Or.inl ⟨by rfl, ?_⟩) hS (fun hT => ?_)
            rotate_left
            · intro w hC; (try dsimp only at hC); go_simp; try with_reducible rfl
            clear hS
            have hS := hT
            clear hT
            simp only [Act.put, List.setIfInBounds_toArray, List.set_cons_zero, List.set_cons_succ] at hS ⊢
            refine wpAnyG_take1 (i := 12) (v := ?_) rfl (by kernel_rfl) (by kernel_rfl) (by kernel_rfl) (by kernel_rfl) (by kernel_rfl) (by kernel_rfl) (fun _ _ _ h => h) (Or.inl ⟨by rfl, ?_⟩) hS (fun hT => ?_)
            rotate_left
            · intro w hC; (try dsimp only at hC); go_simp; try with_reducible rfl
            clear hS
            have hS := hT
            clear hT
            simp only [Act.put, List.setIfInBounds_toArray, List.set_cons_zero, List.set_cons_succ] at hS ⊢
            refine wpAnyG_take (i := 13) (v := ?_) rfl (by kernel_rfl) (by kernel_rfl) (by kernel_rfl) (by kernel_rfl) (fun _ _ _ h => h) (Or.inl ⟨by rfl, ?_⟩) hS (fun hT => ?_)
            rotate_left
            · intro w hC; (try dsimp only at hC); go_simp; try with_reducible rfl
            clear hS
            have hS := hT
            clear hT
            simp only [Act.put, List.setIfInBounds_toArray, List.set_cons_zero, List.set_cons_succ] at hS ⊢
            refine wpAnyG_take (i := 14) (v := ?_) rfl (by kernel_rfl) (by kernel_rfl) (by kernel_rfl) (by kernel_rfl) (fun _ _ _ h => h) (Or.inl ⟨by rfl, ?_⟩) hS (fun hT => ?_)
            rotate_left
            · intro w hC; (try dsimp only at hC); go_simp; try with_reducible rfl
            clear hS
            have hS := hT
            clear hT
            simp only [Act.put, List.setIfInBounds_toArray, List.set_cons_zero, List.set_cons_succ] at hS ⊢
            refine wpAnyG_take (i := 15) (v := ?_) rfl (by kernel_rfl) (by kernel_rfl) (by kernel_rfl) (by kernel_rfl) (fun _ _ _ h => h) (Or.inl ⟨by rfl, ?_⟩) hS (fun hT => ?_)
            rotate_left
            · intro w hC; (try dsimp only at hC); go_simp; try with_reducible rfl
            clear hS
            have hS := hT
            clear hT
            simp only [Act.put, List.setIfInBounds_toArray, List.set_cons_zero, List.set_cons_succ] at hS ⊢
            refine wpAnyG_take (i := 16) (v := ?_) rfl (by kernel_rfl) (by kernel_rfl) (by kernel_rfl) (by kernel_rfl) (fun _ _ _ h => h) (Or.inl ⟨by rfl, ?_⟩) hS (fun hT => ?_)
            rotate_left
            · intro w hC; (try dsimp only at hC); go_simp; try with_reducible rfl
            clear hS
            have hS := hT
            clear hT
            simp only [Act.put, List.setIfInBounds_toArray, List.set_cons_zero, List.set_cons_succ] at hS ⊢
            refine wpAnyG_take (i := 17) (v := ?_) rfl (by kernel_rfl) (by kernel_rfl) (by kernel_rfl) (by kernel_rfl) (fun _ _ _ h => h) (Or.inl ⟨by rfl, ?_⟩) hS (fun hT => ?_)
            rotate_left
            · intro w hC; (try dsimp only at hC); go_simp; try with_reducible rfl
            clear hS
            have hS := hT
            clear hT
            simp only [Act.put, List.setIfInBounds_toArray, List.set_cons_zero, List.set_cons_succ] at hS ⊢
            refine wpAnyG_take (i := 18) (v := ?_) rfl (by kernel_rfl) (by kernel_rfl) (by kernel_rfl) (by kernel_rfl) (fun _ _ _ h => h) (Or.inl ⟨by rfl, ?_⟩) hS (fun hT => ?_)
            rotate_left
            · intro w hC; (try dsimp only at hC); go_simp; try with_reducible rfl
            clear hS
            have hS := hT
            clear hT
            simp only [Act.put, List.setIfInBounds_toArray, List.set_cons_zero, List.set_cons_succ] at hS ⊢
            refine wpAnyG_take (i := 19) (v := ?_) rfl (by kernel_rfl) (by kernel_rfl) (by kernel_rfl) (by kernel_rfl) (fun _ _ _ h => h) (Or.inl ⟨by rfl, ?_⟩) hS (fun hT => ?_)
            rotate_left
            · intro w hC; (try dsimp only at hC); go_simp; try with_reducible rfl
            clear hS
            have hS := hT
            clear hT
            simp only [Act.put, List.setIfInBounds_toArray, List.set_cons_zero, List.set_cons_succ] at hS ⊢
            refine wpAnyG_take (i := 20) (v := ?_) rfl (by kernel_rfl) (by kernel_rfl) (by kernel_rfl) (by kernel_rfl) (fun _ _ _ h => h) (Or.inl ⟨by rfl, ?_⟩) hS (fun hT => ?_)
            rotate_left
            · intro w hC; (try dsimp only at hC); go_simp; try with_reducible rfl
            clear hS
            have hS := hT
            clear hT
            simp only [Act.put, List.setIfInBounds_toArray, List.set_cons_zero, List.set_cons_succ] at hS ⊢
            refine wpAnyG_take (i := 21) (v := ?_) rfl (by kernel_rfl) (by kernel_rfl) (by kernel_rfl) (by kernel_rfl) (fun _ _ _ h => h) (Or.inl ⟨by rfl, ?_⟩) hS (fun hT => ?_)
            rotate_left
            · intro w hC; (try dsimp only at hC); go_simp; try with_reducible rfl
            clear hS
            have hS := hT
            clear hT
            simp only [Act.put, List.setIfInBounds_toArray, List.set_cons_zero, List.set_cons_succ] at hS ⊢
            refine wpAnyG_take (i := 22) (v := ?_) rfl (by kernel_rfl) (by kernel_rfl) (by kernel_rfl) (by kernel_rfl) (fun _ _ _ h => h) (Or.inl ⟨by rfl, ?_⟩) hS (fun hT => ?_)
            rotate_left
            · intro w hC; (try dsimp only at hC); go_simp; try with_reducible rfl
            clear hS
            have hS := hT
            clear hT
            simp only [Act.put, List.setIfInBounds_toArray, List.set_cons_zero, List.set_cons_succ] at hS ⊢
            refine wpAnyG_one (i := 23) (by kernel_rfl) rfl (fun K hK => ?_)
            go_simp
            refine hK.out _ _ ⟨?_, fun hu => ?_⟩ (fun hT => ?_)
            · go_keep
            · exact absurd hu (by decide)
            clear hS
            have hS := hT
            clear hT
            simp only [List.setIfInBounds_toArray, List.set_cons_zero, List.set_cons_succ] at hS ⊢
            clear hK K
            refine wpAnyG_take (i := 24) (v := ?_) rfl (by kernel_rfl) (by kernel_rfl) (by kernel_rfl) (by kernel_rfl) (fun _ _ _ h => h) (Or.inl ⟨by rfl, ?_⟩) hS (fun hT => ?_)
            rotate_left
            · intro w hC; (try dsimp only at hC); go_simp; try with_reducible rfl
            clear hS
            have hS := hT
            clear hT
            simp only [Act.put, List.setIfInBounds_toArray, List.set_cons_zero, List.set_cons_succ] at hS ⊢
            refine wpAnyG_one (i := 25) (by kernel_rfl) rfl (fun K hK => ?_)
            go_simp
            refine hK.out _ _ ⟨?_, fun hu => ?_⟩ (fun hT => ?_)
            · go_keep
            · exact absurd hu (by decide)
            clear hS
            have hS := hT
            clear hT
            simp only [List.setIfInBounds_toArray, List.set_cons_zero, List.set_cons_succ] at hS ⊢
            clear hK K
            refine wpAnyG_done (by kernel_rfl) ?_ _
            clear hS
            go_wp2_with fail
            go_roundw
            case rel => exact ⟨j + 1, f3, l3, by omega, by omega, by go_num, hf3', hl3', Lib.hid (by rw [← E1.out, ← E2.out]; exact (HQJ.out.set 0 _).set 1 _), Lib.hid (HREL.out (by omega)), (by (repeat (first | exact HTJ.out | refine Touch.drewN ?_ _ | refine Touch.drew ?_ | refine Touch.set ?_ (.inl (by simp)) _)))⟩
            case measure => simp [intOf]; omega
          · have t41 : decide (x1 ≤ l2) = false := by simpa using i1
            have i1' : ¬ (x1 : Int) ≤ (l2 : Int) := by omega
            by_cases i2 : x1 ≤ l2 + 1
            · have t55 : decide ((x1 : Int) - (l2 : Int) ≤ (1 : Int)) = true := by simp; omega
              have i2' : (x1 : Int) - (l2 : Int) ≤ (1 : Int) := by omega
              go_wp2_with fail
              go_quiet (fail)
              go_wp2_with fail
              refine wp_region_hold (fun w' => w'.cell? ⟨p, 0, none⟩ = some (.slice (some ⟨g, o, none⟩) L.length c) ∧ w'.cell? ⟨g, o + j * 2, none⟩ = some (.int .u64 (x1 : Int)) ∧ w'.cell? ⟨g, o + j * 2 + 1, none⟩ = some (.int .u64 (x2 : Int))) (fun w' => w'.cell? ⟨q, 0, none⟩ = some (.int .u64 (f2 : Int)) ∧ w'.cell? ⟨q, 1, none⟩ = some (.int .u64 (l2 : Int))) [23, 25] [false, false, false, false, false, false, false, false, false, false, false, false, false, false, false, false, false, false, false, false, false, false, false, false, false, false] (by kernel_rfl) (by kernel_rfl) (by go_keep) (by go_keep) (fun hS => ?_)
              refine wpAnyG_take (i := 0) (v := ?_) rfl (by kernel_rfl) (by kernel_rfl) (by kernel_rfl) (by kernel_rfl) (fun _ _ _ h => h) (Or.inl ⟨by rfl, ?_⟩) hS (fun hT => ?_)
              rotate_left
              · intro w hC; (try dsimp only at hC); go_simp; try with_reducible rfl
              clear hS
              have hS := hT
              clear hT
              simp only [Act.put, List.setIfInBounds_toArray, List.set_cons_zero] at hS ⊢
              refine wpAnyG_take1 (i := 1) (v := ?_) rfl (by kernel_rfl) (by kernel_rfl) (by kernel_rfl) (by kernel_rfl) (by kernel_rfl) (by kernel_rfl) (fun _ _ _ h => h) (Or.inl ⟨by rfl, ?_⟩) hS (fun hT => ?_)
              rotate_left
              · intro w hC; (try dsimp only at hC); go_simp; try with_reducible rfl
              clear hS
              have hS := hT
              clear hT
              simp only [Act.put, List.setIfInBounds_toArray, List.set_cons_zero, List.set_cons_succ] at hS ⊢
              refine wpAnyG_take (i := 2) (v := ?_) rfl (by kernel_rfl) (by kernel_rfl) (by kernel_rfl) (by kernel_rfl) (fun _ _ _ h => h) (Or.inl ⟨by rfl, ?_⟩) hS (fun hT => ?_)
              rotate_left
              · intro w hC; (try dsimp only at hC); go_simp; try with_reducible rfl
              clear hS
              have hS := hT
              clear hT
              simp only [Act.put, List.setIfInBounds_toArray, List.set_cons_zero, List.set_cons_succ] at hS ⊢
              refine wpAnyG_take (i := 3) (v := ?_) rfl (by kernel_rfl) (by kernel_rfl) (by kernel_rfl) (by kernel_rfl) (fun _ _ _ h => h) (Or.inl ⟨by rfl, ?_⟩) hS (fun hT => ?_)
              rotate_left
              · intro w hC; (try dsimp only at hC); go_simp; try with_reducible rfl
              clear hS
              have hS := hT
              clear hT
              simp only [Act.put, List.setIfInBounds_toArray, List.set_cons_zero, List.set_cons_succ] at hS ⊢
              refine wpAnyG_take (i := 4) (v := ?_) rfl (by kernel_rfl) (by kernel_rfl) (by kernel_rfl) (by kernel_rfl) (fun _ _ _ h => h) (Or.inl ⟨by rfl, ?_⟩) hS (fun hT => ?_)
              rotate_left
              · intro w hC; (try dsimp only at hC); go_simp; try with_reducible rfl
              clear hS
              have hS := hT
              clear hT
              simp only [Act.put, List.setIfInBounds_toArray, List.set_cons_zero, List.set_cons_succ] at hS ⊢
              refine wpAnyG_take (i := 5) (v := ?_) rfl (by kernel_rfl) (by kernel_rfl) (by kernel_rfl) (by kernel_rfl) (fun _ _ _ h => h) (Or.inl ⟨by rfl, ?_⟩) hS (fun hT => ?_)
              rotate_left
              · intro w hC; (try dsimp only at hC); go_simp; try with_reducible rfl
              clear hS
              have hS := hT
              clear hT
              simp only [Act.put, List.setIfInBounds_toArray, List.set_cons_zero, List.set_cons_succ] at hS ⊢
              refine wpAnyG_take (i := 6) (v := ?_) rfl (by kernel_rfl) (by kernel_rfl) (by kernel_rfl) (by kernel_rfl) (fun _ _ _ h => h) (Or.inl ⟨by rfl, ?_⟩) hS (fun hT => ?_)
              rotate_left
              · intro w hC; (try dsimp only at hC); go_simp; try with_reducible rfl
              clear hS
              have hS := hT
              clear hT
              simp only [Act.put, List.setIfInBounds_toArray, List.set_cons_zero, List.set_cons_succ] at hS ⊢
              refine wpAnyG_take (i := 7) (v := ?_) rfl (by kernel_rfl) (by kernel_rfl) (by kernel_rfl) (by kernel_rfl) (fun _ _ _ h => h) (Or.inl ⟨by rfl, ?_⟩) hS (fun hT => ?_)
              rotate_left
              · intro w hC; (try dsimp only at hC); go_simp; try with_reducible rfl
              clear hS
              have hS := hT
              clear hT
              simp only [Act.put, List.setIfInBounds_toArray, List.set_cons_zero, List.set_cons_succ] at hS ⊢
              refine wpAnyG_take (i := 8) (v := ?_) rfl (by kernel_rfl) (by kernel_rfl) (by kernel_rfl) (by kernel_rfl) (fun _ _ _ h => h) (Or.inl ⟨by rfl, ?_⟩) hS (fun hT => ?_)
              rotate_left
              · intro w hC; (try dsimp only at hC); go_simp; try with_reducible rfl
              clear hS
              have hS := hT
              clear hT
              simp only [Act.put, List.setIfInBounds_toArray, List.set_cons_zero, List.set_cons_succ] at hS ⊢
              refine wpAnyG_take (i := 9) (v := ?_) rfl (by kernel_rfl) (by kernel_rfl) (by kernel_rfl) (by kernel_rfl) (fun _ _ _ h => h) (Or.inl ⟨by rfl, ?_⟩) hS (fun hT => ?_)
              rotate_left
              · intro w hC; (try dsimp only at hC); go_simp; try with_reducible rfl
              clear hS
              have hS := hT
              clear hT
              simp only [Act.put, List.setIfInBounds_toArray, List.set_cons_zero, List.set_cons_succ] at hS ⊢
              refine wpAnyG_take (i := 10) (v := ?_) rfl (by kernel_rfl) (by kernel_rfl) (by kernel_rfl) (by kernel_rfl) (fun _ _ _ h => h) (Or.inl ⟨by rfl, ?_⟩) hS (fun hT => ?_)
              rotate_left
              · intro w hC; (try dsimp only at hC); go_simp; try with_reducible rfl
              clear hS
              have hS := hT
              clear hT
              simp only [Act.put, List.setIfInBounds_toArray, List.set_cons_zero, List.set_cons_succ] at hS ⊢
              refine wpAnyG_take (i := 11) (v := ?_) rfl (by kernel_rfl) (by kernel_rfl) (by kernel_rfl) (by kernel_rfl) (fun _ _ _ h => h) (Or.inl ⟨by rfl, ?_⟩) hS (fun hT => ?_)
              rotate_left
              · intro w hC; (try dsimp only at hC); go_simp; try with_reducible rfl
              clear hS
              have hS := hT
              clear hT
              simp only [Act.put, List.setIfInBounds_toArray, List.set_cons_zero, List.set_cons_succ] at hS ⊢
              refine wpAnyG_take1 (i := 12) (v := ?_) rfl (by kernel_rfl) (by kernel_rfl) (by kernel_rfl) (by kernel_rfl) (by kernel_rfl) (by kernel_rfl) (fun _ _ _ h => h) (Or.inl ⟨by rfl, ?_⟩) hS (fun hT => ?_)
              rotate_left
              · intro w hC; (try dsimp only at hC); go_simp; try with_reducible rfl
              clear hS
              have hS := hT
              clear hT
              simp only [Act.put, List.setIfInBounds_toArray, List.set_cons_zero, List.set_cons_succ] at hS ⊢
              refine wpAnyG_take (i := 13) (v := ?_) rfl (by kernel_rfl) (by kernel_rfl) (by kernel_rfl) (by kernel_rfl) (fun _ _ _ h => h) (Or.inl ⟨by rfl, ?_⟩) hS (fun hT => ?_)
              rotate_left
              · intro w hC; (try dsimp only at hC); go_simp; try with_reducible rfl
              clear hS
              have hS := hT
              clear hT
              simp only [Act.put, List.setIfInBounds_toArray, List.set_cons_zero, List.set_cons_succ] at hS ⊢
              refine wpAnyG_take (i := 14) (v := ?_) rfl (by kernel_rfl) (by kernel_rfl) (by kernel_rfl) (by kernel_rfl) (fun _ _ _ h => h) (Or.inl ⟨by rfl, ?_⟩) hS (fun hT => ?_)
              rotate_left
              · intro w hC; (try dsimp only at hC); go_simp; try with_reducible rfl
              clear hS
              have hS := hT
              clear hT
              simp only [Act.put, List.setIfInBounds_toArray, List.set_cons_zero, List.set_cons_succ] at hS ⊢
              refine wpAnyG_take (i := 15) (v := ?_) rfl (by kernel_rfl) (by kernel_rfl) (by kernel_rfl) (by kernel_rfl) (fun _ _ _ h => h) (Or.inl ⟨by rfl, ?_⟩) hS (fun hT => ?_)
              rotate_left
              · intro w hC; (try dsimp only at hC); go_simp; try with_reducible rfl
              clear hS
              have hS := hT
              clear hT
              simp only [Act.put, List.setIfInBounds_toArray, List.set_cons_zero, List.set_cons_succ] at hS ⊢
              refine wpAnyG_take (i := 16) (v := ?_) rfl (by kernel_rfl) (by kernel_rfl) (by kernel_rfl) (by kernel_rfl) (fun _ _ _ h => h) (Or.inl ⟨by rfl, ?_⟩) hS (fun hT => ?_)
              rotate_left
              · intro w hC; (try dsimp only at hC); go_simp; try with_reducible rfl
              clear hS
              have hS := hT
              clear hT
              simp only [Act.put, List.setIfInBounds_toArray, List.set_cons_zero, List.set_cons_succ] at hS ⊢
              refine wpAnyG_take (i := 17) (v := ?_) rfl (by kernel_rfl) (by kernel_rfl) (by kernel_rfl) (by kernel_rfl) (fun _ _ _ h => h) (Or.inl ⟨by rfl, ?_⟩) hS (fun hT => ?_)
              rotate_left
              · intro w hC; (try dsimp only at hC); go_simp; try with_reducible rfl
              clear hS
              have hS := hT
              clear hT
              simp only [Act.put, List.setIfInBounds_toArray, List.set_cons_zero, List.set_cons_succ] at hS ⊢
              refine wpAnyG_take (i := 18) (v := ?_) rfl (by kernel_rfl) (by kernel_rfl) (by kernel_rfl) (by kernel_rfl) (fun _ _ _ h => h) (Or.inl ⟨by rfl, ?_⟩) hS (fun hT => ?_)
              rotate_left
              · intro w hC; (try dsimp only at hC); go_simp; try with_reducible rfl
              clear hS
              have hS := hT
              clear hT
              simp only [Act.put, List.setIfInBounds_toArray, List.set_cons_zero, List.set_cons_succ] at hS ⊢
              refine wpAnyG_take (i := 19) (v := ?_) rfl (by kernel_rfl) (by kernel_rfl) (by kernel_rfl) (by kernel_rfl) (fun _ _ _ h => h) (Or.inl ⟨by rfl, ?_⟩) hS (fun hT => ?_)
              rotate_left
              · intro w hC; (try dsimp only at hC); go_simp; try with_reducible rfl
              clear hS
              have hS := hT
              clear hT
              simp only [Act.put, List.setIfInBounds_toArray, List.set_cons_zero, List.set_cons_succ] at hS ⊢
              refine wpAnyG_take (i := 20) (v := ?_) rfl (by kernel_rfl) (by kernel_rfl) (by kernel_rfl) (by kernel_rfl) (fun _ _ _ h => h) (Or.inl ⟨by rfl, ?_⟩) hS (fun hT => ?_)
              rotate_left
              · intro w hC; (try dsimp only at hC); go_simp; try with_reducible rfl
              clear hS
              have hS := hT
              clear hT
              simp only [Act.put, List.setIfInBounds_toArray, List.set_cons_zero, List.set_cons_succ] at hS ⊢
              refine wpAnyG_take (i := 21) (v := ?_) rfl (by kernel_rfl) (by kernel_rfl) (by kernel_rfl) (by kernel_rfl) (fun _ _ _ h => h) (Or.inl ⟨by rfl, ?_⟩) hS (fun hT => ?_)
              rotate_left
              · intro w hC; (try dsimp only at hC); go_simp; try with_reducible rfl
              clear hS
              have hS := hT
              clear hT
              simp only [Act.put, List.setIfInBounds_toArray, List.set_cons_zero, List.set_cons_succ] at hS ⊢
              refine wpAnyG_take (i := 22) (v := ?_) rfl (by kernel_rfl) (by kernel_rfl) (by kernel_rfl) (by kernel_rfl) (fun _ _ _ h => h) (Or.inl ⟨by rfl, ?_⟩) hS (fun hT => ?_)
              rotate_left
              · intro w hC; (try dsimp only at hC); go_simp; try with_reducible rfl
              clear hS
              have hS := hT
              clear hT
              simp only [Act.put, List.setIfInBounds_toArray, List.set_cons_zero, List.set_cons_succ] at hS ⊢
              refine wpAnyG_one (i := 23) (by kernel_rfl) rfl (fun K hK => ?_)
              go_simp
              refine hK.out _ _ ⟨?_, fun hu => ?_⟩ (fun hT => ?_)
              · go_keep
              · exact absurd hu (by decide)
              clear hS
              have hS := hT
              clear hT
              simp only [List.setIfInBounds_toArray, List.set_cons_zero, List.set_cons_succ] at hS ⊢
              clear hK K
              refine wpAnyG_take (i := 24) (v := ?_) rfl (by kernel_rfl) (by kernel_rfl) (by kernel_rfl) (by kernel_rfl) (fun _ _ _ h => h) (Or.inl ⟨by rfl, ?_⟩) hS (fun hT => ?_)
              rotate_left
              · intro w hC; (try dsimp only at hC); go_simp; try with_reducible rfl
              clear hS
              have hS := hT
              clear hT
              simp only [Act.put, List.setIfInBounds_toArray, List.set_cons_zero, List.set_cons_succ] at hS ⊢
              refine wpAnyG_one (i := 25) (by kernel_rfl) rfl (fun K hK => ?_)
              go_simp
              refine hK.out _ _ ⟨?_, fun hu => ?_⟩ (fun hT => ?_)
              · go_keep
              · exact absurd hu (by decide)
              clear hS
              have hS := hT
              clear hT
              simp only [List.setIfInBounds_toArray, List.set_cons_zero, List.set_cons_succ] at hS ⊢
              clear hK K
              refine wpAnyG_done (by kernel_rfl) ?_ _
              clear hS
              go_wp2_with fail
              go_roundw
              case rel => exact ⟨j + 1, f3, l3, by omega, by omega, by go_num, hf3', hl3', Lib.hid (by rw [← E1.out, ← E2.out]; exact (HQJ.out.set 0 _).set 1 _), Lib.hid (HREL.out (by omega)), (by (repeat (first | exact HTJ.out | refine Touch.drewN ?_ _ | refine Touch.drew ?_ | refine Touch.set ?_ (.inl (by simp)) _)))⟩
              case measure => simp [intOf]; omega
            · have t55 : decide ((x1 : Int) - (l2 : Int) ≤ (1 : Int)) = false := by simp; omega
              have i2' : ¬ (x1 : Int) - (l2 : Int) ≤ (1 : Int) := by omega
              go_wp2_with fail
              go_quiet (fail)
              go_wp2_with fail
              go_meet
              case rel => exact ⟨j, f2, l2, hkj, hj, rfl, HQJ, Lib.hid (by rw [HJ.out]; exact sp_stop (by rw [HX.out]; intro x hx; simp at hx; subst hx; exact ⟨hlo, by show l2 + 1 < x1; omega⟩)), HTJ.out.drewN _⟩
        · obtain rfl : j = L.length := by omega
          have t29 : decide (L.length < L.length) = false := by simp
          go_wp2_with fail
          go_quiet (fail)
          go_wp2_with fail
          go_meet
          case rel => exact ⟨L.length, f2, l2, hkj, by omega, rfl, HQJ, Lib.hid (by rw [HJ.out]; exact sp_stop (by simp)), HTJ.out.drewN _⟩
    case rest =>
      obtain ⟨j, f2, l2, hkj, hj, rfl, HQJ, HJ, hT⟩ := hcut
      have hb := HBC.out.touch hT (by simp; exact fun e => HNE.out.1 e.symm)
      have HSL := Lib.hid (HLC.out.touch hT (fun g hg hm => HNE.out.2 g hg (by simpa using hm)))
      have d0 := hb.cell 0
      have y0 := hb.frozen 0
      have q0 := HQJ.out.cell 0
      have q1 := HQJ.out.cell 1
      simp only [List.getElem?_cons_zero, List.getElem?_cons_succ] at d0 q0 q1
      have hl' := hb.lt
      have hql' := HQJ.out.lt
      have HB := Lib.hid hb
      have HTJ := Lib.hid hT
      clear hb hT
      go_wp2_with fail
      have n1 : ¬ q = p := HNE.out.1
      have n2 : ¬ p = q := fun e => HNE.out.1 e.symm
      go_region_law (first | (go_simp; go_at_call 46; refine (replace_any (wc.alloc (.cells #[.int .u64 (f2 : Int), .int .u64 (l2 : Int)] 35)).drew (.slice a L.length c) L.length k j wc.heap.size (cr L) (cr [(f2, l2)]) (HSL.out.touch (ks := []) (by (repeat (first | exact Touch.refl _ _ | refine Touch.drewN ?_ _ | refine Touch.drew ?_ | refine Touch.alloc ?_ _))) (by simp)) ((Sl.new wc (f2, l2)).touch ((Touch.refl [] _).drew) (by simp)) hkj hj (fun hg => by have := HSL.out.lt _ hg; omega) (by omega) (cr_one _) (cr_one _)).mono ?_; rintro e w5 ⟨v5, rfl, k1, k2, k3⟩; obtain ⟨a5, c5, hv5, _⟩ := k1.form; subst hv5; have K1 := Lib.hid k1; have K2 := Lib.hid k2; have K3 := Lib.hid k3; have HB5 := Lib.hid ((HB.out.touch (((Touch.refl [] wc).alloc (.cells #[.int .u64 (f2 : Int), .int .u64 (l2 : Int)] 35)).drew) (by simp)).touch K2.out H5.out); have HQ5 := Lib.hid ((HQJ.out.touch (((Touch.refl [] wc).alloc (.cells #[.int .u64 (f2 : Int), .int .u64 (l2 : Int)] 35)).drew) (by simp)).touch K2.out (fun hm => HNE.out.2 q hm rfl)); have p0 := HQ5.out.cell 0; have p1 := HQ5.out.cell 1; have b0 := HB5.out.cell 0; have z0 := HB5.out.frozen 0; have bl := HB5.out.lt; simp only [List.getElem?_cons_zero, List.getElem?_cons_succ] at b0 p0 p1; clear k1 k2 k3))
      all_goals
        go_wp2_with fail
        go_end0
        have hLN : spOp L b f l = L.take k ++ (f2, l2) :: L.drop j := by rw [HF.out, if_pos hfl', ← HE.out, HJ.out]
        have hlen : (spOp L b f l).length = k + 1 + (L.length - j) := by rw [hLN]; simp; omega
        have hcr : cr (spOp L b f l) = (cr L).take (k * 2) ++ cr [(f2, l2)] ++ (cr L).drop (j * 2) := by rw [hLN, cr_append, cr_take, cr_drop]; simp [cr]
        have hsz := HT0.out.size
        have hsz1 := HT.out.size
        have hsz2 := HTJ.out.size
        have hpo : p ∉ own (.slice a5 (k + 1 + (L.length - j)) c5) := fun hm => by
          rcases K3.out p hm with h | h
          · exact H5.out h
          · simp at h; omega
        refine ⟨rfl, p :: own (.slice a5 (k + 1 + (L.length - j)) c5), ⟨a5, c5, ?_, ?_, ?_, ?_, ?_, ?_⟩, ?_, ?_⟩
        · rw [hlen]; exact HB5.out.set 0 _
        · rw [hlen, hcr]
          exact K1.out.touch ((Touch.refl [p] w5).set (.inl (by simp)) _) (fun g hg hp => by simp at hp; subst hp; exact hpo hg)
        · rw [hlen]
        · rw [hlen]; exact hpo
        · exact spOp_V HV.out f l
        · exact HH.out.v.2
        · have T1 := HT0.out.trans HT.out (js := []) (by simp)
          have T2 := T1.trans HTJ.out (fun g hg => .inr (by have := HEQ.out; simp at hg; omega))
          have T3 := (T2.alloc (.cells #[.int .u64 (f2 : Int), .int .u64 (l2 : Int)] 35)).drew
          have T4 := (T3.mono (js := p :: own (.slice a L.length c)) (by simp)).trans K2.out (fun g hg => .inl (by simp [hg]))
          exact T4.set (.inl (by simp)) _
        · intro g hg
          rcases List.mem_cons.1 hg with rfl | hg
          · exact .inl (by simp)
          · rcases K3.out g hg with h | h
            · exact .inl (by simp [h])
            · exact .inr (by simp at h; omega)
end Go.Proofs.Ythnokfchebmjiaa
