/- The contracts of slices.Clone and of the program's without. Conditions: the lists are short enough for their product. -/
import Derived.Test.YtmidlielcioinaaA
namespace Go.Proofs.Ytmidlielcioinaa
open Go.RowKit

theorem info5 : (Try.prog.info? 5).map (fun i => (i.zero, i.size, i.bytes)) = some (some (.int .u8 0), 1, 1) := by kernel_rfl
theorem under22 : Try.prog.underlying 22 = some (.slice 5) := by kernel_rfl
/-- Bytes as cells. -/
def bs (ns : List Nat) : List Value := ns.map fun n : Nat => Value.int .u8 (n : Int)
theorem bs_len (ns : List Nat) : (bs ns).length = ns.length := by simp [bs]
theorem bs_append (l m : List Nat) : bs (l ++ m) = bs l ++ bs m := by simp [bs]
theorem bs_one (ns : List Nat) : ∀ u ∈ bs ns, u.oneCell' = true := by
  intro u hu
  simp [bs] at hu
  obtain ⟨a, _, rfl⟩ := hu
  rfl
theorem Sl.empty (w : World) (e : TypeId) (sz g : Nat) : Sl w e sz (.slice (Option.some ⟨g, 0, none⟩) 0 0) 0 [] := ⟨by simp, .inr ⟨g, 0, 0, rfl, Nat.le_refl _, Nat.zero_le _, fun h => absurd h (Nat.lt_irrefl 0)⟩⟩

theorem clone_any (w : World) (v : Value) (n : Nat) (b : List Nat) (h : Rd w 1 v n (bs b)) (hv : ∀ a c, v = .slice a n c → a = none → n = 0 ∧ c = 0) (hn : n ≤ 1099511627776) :
    Calls Try.prog 41 #[v] w fun e w' => ∃ v', e = .returned v' ∧ Rd w' 1 v' n (bs b) ∧ Touch [] w w' ∧ ∀ g ∈ own v', w.heap.size ≤ g := by
  obtain ⟨i0, hi0, hz0, hz1, hz2⟩ := info_parts info5
  have heq := fun (w : World) (a : Option Addr) (n c n' c' : Nat) => Lib.run_eql_slice_nil (P := Try.prog) w 22 5 a n c n' c' under22
  obtain ⟨a, c, rfl⟩ := h.form
  have H := Lib.hid h
  cases a with
  | none =>
    obtain ⟨rfl, rfl⟩ := hv none c rfl rfl
    clear h hv
    go_enter Try.func41, Try.ntmps41
    go_wp2_with fail
    go_ret
    exact ⟨_, rfl, H.out, Touch.refl _ _, by simp⟩
  | some ad =>
    clear h hv
    go_enter Try.func41, Try.ntmps41
    go_wp2_with (at_builtin; refine wpList_append_sl _ rfl _ _ 22 rfl 5 i0 _ 1 1 under22 hi0 hz0 hz1 hz2 rfl (by omega) (.slice (Option.some ⟨w.heap.size, 0, none⟩) 0 0) 0 [] rfl (Sl.empty _ 5 1 w.heap.size) (.slice (Option.some ad) n c) n (bs b) rfl (H.out.touch ((Touch.refl [] _).alloc _) (by simp)) (bs_one _) (by unfold maxLen; omega) (by omega) fun a' c' w' k1 k2 k3 k4 => ?_)
    go_ret
    simp only [Nat.zero_add, List.nil_append] at k1 k3
    refine ⟨.slice a' n c', rfl, k1.rd, ?_, ?_⟩
    · exact ((Touch.refl [] w).alloc _).trans k2 (by simp [own])
    · intro g hg
      rcases k3 g hg with h | h
      · simp [own] at h
      · simp at h; omega

theorem cnt_ge : ∀ A : List Rng, A.length ≤ cnt A
  | [] => by simp [cnt]
  | x :: A => by
    have := cnt_ge A
    rw [cnt_cons, List.length_cons]
    omega
theorem Rd.newI (w : World) (q : Nat) (i1 i2 : Int) (x : Rng) (h1 : i1 = (x.1 : Int)) (h2 : i2 = (x.2 : Int)) (hq : q = w.heap.size) : Rd (w.alloc (.cells #[.int .u64 i1, .int .u64 i2] 56)) 2 (.slice (Option.some ⟨q, 0, none⟩) 1 1) 1 (cr [x]) := by
  rw [h1, h2, hq]
  exact Rd.new w x
set_option maxRecDepth 100000 in
set_option maxHeartbeats 8000000 in
theorem without_any (w : World) (v : Value) (l A : List Rng) (q : Nat) (Fq : List Nat) (h : Rd w 2 v l.length (cr l)) (hq : IsS w q 71 Fq A 0) (hl : V l 0) (hln : l.length ≤ 100000) (hAn : A.length ≤ 100000) :
    Calls Try.prog 36 #[v, .pointer (some ⟨q, 0, none⟩)] w fun e w' => ∃ v', e = .returned v' ∧ Sl w' 56 2 v' (wo l A).length (cr (wo l A)) ∧ Touch [] w w' ∧ ∀ g ∈ own v', w.heap.size ≤ g := by
  obtain ⟨i0, hi0, hz0, hz1, hz2⟩ := info_parts info38
  obtain ⟨a, c, rfl⟩ := h.form
  have H := Lib.hid h
  have HQ := Lib.hid hq
  have HV := Lib.hid hl
  have HA := Lib.hid hq.v.1
  have hcl := cnt_le A 0 0 hq.v.1 (by simp) (by unfold mx; omega)
  have hmx : mx = 4611686018427387903 := rfl
  have hcn : A.length ≤ cnt A := cnt_ge A
  have hwl := wo_len l A
  have hwl2 : (wo l A).length ≤ 100000 * 100001 := Nat.le_trans hwl (Nat.mul_le_mul hln (by omega))
  obtain ⟨u, hu⟩ : ∃ u, u = cnt A := ⟨_, rfl⟩
  have HU := Lib.hid hu
  have hub : u ≤ 4611686018427387904 := by omega
  have HT : Hid (A.reverse.take (u : Int).toNat = A.reverse) := Lib.hid (List.take_of_length_le (by simp; omega))
  clear h hq hl hcl hmx hcn hu hwl
  go_enter Try.func36, Try.ntmps36
  go_wp2_with fail
  refine (count_any w q Fq A 0 HQ.out).mono ?_
  rw [← HU.out]
  rintro e w1 ⟨rfl, k⟩
  have HT1 := Lib.hid k
  clear k
  go_wp2_with fail
  refine (ranges_any w1 q Fq A 0 (u : Int) (HQ.out.keep HT1.out) (by omega)).mono ?_
  rw [HT.out]
  rintro e w2 ⟨tv, rfl, k1, k2, k3⟩
  have HT2 := Lib.hid (HT1.out.trans k2 (by simp))
  have HV2 := Lib.hid k1
  have HO2 : Hid (∀ g ∈ own tv, w.heap.size ≤ g) := Lib.hid fun g hg => Nat.le_trans HT1.out.size (k3 g hg)
  clear k1 k2 k3
  go_wp2_with fail
  refine (reverse_any w2 tv _ A.reverse HV2.out rfl).mono ?_
  rw [List.reverse_reverse, List.length_reverse]
  rintro e w3 ⟨rfl, k1, k2⟩
  obtain ⟨ta, tc, hte⟩ := k1.rd.form
  subst hte
  have HTV := Lib.hid k1.rd
  have HT3 := Lib.hid (HT2.out.trans k2 (fun g hg => .inr (HO2.out g hg)))
  clear k1 k2
  go_wp2_with fail
  go_loopg [22, 5] l.length (fun gk i o wr => ∃ (k : Nat) (v' : Value), gk = l.length - k ∧ k ≤ l.length ∧ i = .int .i64 (k : Int) ∧ o = v' ∧ Hid (Sl wr 56 2 v' (wo (l.take k) A).length (cr (wo (l.take k) A))) ∧ Hid (Touch [] w3 wr) ∧ Hid (∀ g ∈ own v', w3.heap.size ≤ g))
  case atStart => exact ⟨0, _, by omega, by omega, by simp, rfl, Lib.hid (by simpa [cr, wo] using Sl.nil _ 56 2), Lib.hid (Touch.refl _ _), Lib.hid (by simp)⟩
  case round =>
    obtain ⟨k, v', rfl, hk, rfl, rfl, HS, HTR, HO⟩ := hrel
    by_cases hlt : k < l.length
    · have hlt' : (k : Int) < (l.length : Int) := by omega
      obtain ⟨x, hx⟩ : ∃ x, l[k]? = some x := ⟨_, List.getElem?_eq_getElem hlt⟩
      have HWT := Lib.hid (wo_take l A k x hx)
      obtain ⟨g, o, rfl⟩ := H.out.some (by omega)
      obtain ⟨e1, e2, hg⟩ := (H.out.touch (HT3.out.trans HTR.out (by simp)) (by simp)).two rfl k x hx
      have hxv := HV.out.2 x (List.mem_of_getElem? hx)
      have hx2 : x.2 ≤ 4611686018427387903 := hxv.2.2
      have hx12 : x.1 ≤ x.2 := hxv.2.1
      have hwk : (wo (l.take (k + 1)) A).length ≤ 100000 * 100001 := Nat.le_trans (wo_len _ _) (Nat.mul_le_mul (by rw [List.length_take]; omega) (by omega))
      obtain ⟨x1, x2⟩ := x
      simp only at e1 e2 hx2 hx12
      rw [HWT.out, List.length_append] at hwk
      simp only at hwk
      generalize wo (l.take k) A = M0 at *
      clear hx hxv
      obtain ⟨va, vc, hve, _⟩ := HS.out.form
      subst hve
      have hm0 : M0.length ≤ 100000 * 100001 := by omega
      obtain ⟨wx0, hwx0⟩ : ∃ wx0, wx0 = wr.alloc (.cells #[.int .u64 (x1 : Int), .int .u64 (x2 : Int)] 56) := ⟨_, rfl⟩
      have HX0 : Hid (IsBlk wx0 wr.heap.size [.int .u64 (x1 : Int), .int .u64 (x2 : Int)] 56) := Lib.hid (by rw [hwx0]; exact IsBlk.new wr _ 56)
      have HT0 : Hid (Touch [] wr wx0) := Lib.hid (by rw [hwx0]; exact (Touch.refl _ _).alloc _)
      have HZ0 : Hid (wx0.heap.size = wr.heap.size + 1) := Lib.hid (by rw [hwx0]; simp)
      obtain ⟨wo, rfl⟩ : ∃ wo : World, wo = wr := ⟨_, rfl⟩
      have HXN : Hid (wo.heap.size ∉ own (Value.slice va M0.length vc)) := Lib.hid fun hm => by have := HS.out.lt _ hm; omega
      go_upto_block 2 with (fail)
      rw [← hwx0]
      clear hwx0
      go_cut [5, 9, 10] (fun s5 s9 s10 wx => ∃ (v2 : Value) (M : List Rng) (at_ : Nat) (op : Bool), s5 = v2 ∧ s9 = .int .u64 (at_ : Int) ∧ s10 = .bool op ∧ at_ ≤ 4611686018427387903 ∧ Hid (M0 ++ cutR A x1 x2 = M ++ (if op then [(at_, x2)] else [])) ∧ Hid (Sl wx 56 2 v2 M.length (cr M)) ∧ Hid (Touch (own (Value.slice va M0.length vc)) wx0 wx) ∧ Hid (∀ g ∈ own v2, g ∈ own (Value.slice va M0.length vc) ∨ wx0.heap.size ≤ g))
      case first =>
        clear e1 e2 hg
        go_wp2_with fail
        go_loopw [30, 5, 9, 10] (fun i o s9 s10 wr => ∃ (j : Nat) (v2 : Value) (M : List Rng) (at_ : Nat), j ≤ A.length ∧ i = .int .i64 (j : Int) ∧ o = v2 ∧ s9 = .int .u64 (at_ : Int) ∧ s10 = .bool true ∧ at_ ≤ x2 ∧ Hid (M0 ++ cutR A x1 x2 = M ++ cutR (A.drop j) at_ x2) ∧ Hid (Sl wr 56 2 v2 M.length (cr M)) ∧ Hid (Touch (own (Value.slice va M0.length vc)) wx0 wr) ∧ Hid (∀ g ∈ own v2, g ∈ own (Value.slice va M0.length vc) ∨ wx0.heap.size ≤ g)) (fun i _ _ _ _ => A.length - (intOf i).toNat)
        case atStart => exact ⟨0, _, M0, x1, by omega, by simp, rfl, rfl, rfl, hx12, Lib.hid (by simp), Lib.hid (HS.out.touch HT0.out (by simp)), Lib.hid (Touch.refl _ _), Lib.hid (fun g hg => .inl hg)⟩
        case round =>
          obtain ⟨j, v2, M, at_, hj, rfl, rfl, rfl, rfl, hat, HE, HM, HTJ, HOJ⟩ := hrel
          obtain ⟨va2, vc2, hve2, _⟩ := HM.out.form
          have hb1 := HX0.out.touch HTJ.out HXN.out
          have b0 := hb1.cell 0
          have b1 := hb1.cell 1
          simp only [List.getElem?_cons_zero, List.getElem?_cons_succ] at b0 b1
          have hbl := hb1.lt
          have hMl : M.length ≤ 100000 * 100001 := by have := congrArg List.length HE.out; rw [List.length_append, List.length_append] at this; omega
          subst hve2
          have HB1 := Lib.hid hb1
          clear hb1
          by_cases hlj : j < A.length
          · have hlj' : (j : Int) < (A.length : Int) := by omega
            obtain ⟨y, hy⟩ : ∃ y, A[j]? = some y := ⟨_, List.getElem?_eq_getElem hlj⟩
            obtain ⟨g2, o2, rfl⟩ := HTV.out.some (by omega)
            have HT3J : Hid (Touch [] w3 wr) := Lib.hid ((HTR.out.trans HT0.out (by simp)).trans HTJ.out (fun g hg => .inr (HO.out g hg)))
            obtain ⟨d1, d2, hg2⟩ := (HTV.out.touch HT3J.out (by simp)).two rfl j y hy
            have hyv := HA.out.2 y (List.mem_of_getElem? hy)
            have hy2 : y.2 ≤ 4611686018427387903 := hyv.2.2
            have hy12 : y.1 ≤ y.2 := hyv.2.1
            have HSK : Hid (y.2 < at_ ∨ x2 < y.1 → cutR (A.drop j) at_ x2 = cutR (A.drop (j + 1)) at_ x2) := Lib.hid fun h => by rw [dropR_at hy, cutR, if_pos h]
            have HGO : Hid (¬ (y.2 < at_ ∨ x2 < y.1) → cutR (A.drop j) at_ x2 = (if at_ < y.1 then [(at_, y.1 - 1)] else []) ++ (if x2 ≤ y.2 then [] else cutR (A.drop (j + 1)) (y.2 + 1) x2)) := Lib.hid fun h => by rw [dropR_at hy, cutR, if_neg h]
            obtain ⟨y1, y2⟩ := y
            simp only at d1 d2 hy2 hy12
            clear hy hyv
            have HN1 : Hid (wr.heap.size ∉ own (Value.slice va2 M.length vc2)) := Lib.hid fun hm => by have := HM.out.lt _ hm; omega
            have HN2 : Hid (wo.heap.size ∉ own (Value.slice va2 M.length vc2)) := Lib.hid fun hm => (HOJ.out _ hm).elim (fun h => HXN.out h) (fun h => by have := HZ0.out; omega)
            by_cases i1 : (y2 : Int) < (at_ : Int)
            · go_wp2_with fail
              go_roundw
              case rel => exact ⟨j + 1, _, M, at_, by omega, by go_num, rfl, rfl, rfl, hat, Lib.hid (by rw [← HSK.out (.inl (by show y2 < at_; omega))]; exact HE.out), Lib.hid (HM.out.touch (ks := []) (by (repeat (first | exact Touch.refl _ _ | refine Touch.drewN ?_ _ | refine Touch.drew ?_ | refine Touch.alloc ?_ _))) (by simp)), Lib.hid (HTJ.out.alloc _), HOJ⟩
              case measure => simp [intOf]; omega
            · by_cases i2 : (x2 : Int) < (y1 : Int)
              · go_wp2_with fail
                go_roundw
                case rel => exact ⟨j + 1, _, M, at_, by omega, by go_num, rfl, rfl, rfl, hat, Lib.hid (by rw [← HSK.out (.inr (by show x2 < y1; omega))]; exact HE.out), Lib.hid (HM.out.touch (ks := []) (by (repeat (first | exact Touch.refl _ _ | refine Touch.drewN ?_ _ | refine Touch.drew ?_ | refine Touch.alloc ?_ _))) (by simp)), Lib.hid (HTJ.out.alloc _), HOJ⟩
                case measure => simp [intOf]; omega
              · have HG2 := Lib.hid (HGO.out (by show ¬ (y2 < at_ ∨ x2 < y1); omega))
                simp only at HG2
                by_cases i3 : (at_ : Int) < (y1 : Int)
                · have i3n : at_ < y1 := by omega
                  by_cases i4 : (x2 : Int) ≤ (y2 : Int)
                  · have i4n : x2 ≤ y2 := by omega
                    go_wp2_with (at_builtin; refine wpList_append_sl _ rfl (.tmp 49) (.tmp 55) 52 rfl 56 i0 _ 2 16 under27 hi0 hz0 hz1 hz2 rfl (by omega) (.slice va2 M.length vc2) M.length (cr M) rfl (HM.out.touch (ks := []) (by (repeat (first | exact Touch.refl _ _ | refine Touch.drewN ?_ _ | refine Touch.drew ?_ | refine Touch.alloc ?_ _))) (by simp)) (.slice (some ⟨wr.heap.size + 1, 0, none⟩) 1 1) 1 (cr [(at_, y1 - 1)]) rfl (Rd.newI (wr.alloc (.cells #[.int .u64 (y1 : Int), .int .u64 (y2 : Int)] 56)) (wr.heap.size + 1) (at_ : Int) ((y1 : Int) - 1) (at_, y1 - 1) rfl (by show (y1 : Int) - 1 = ((y1 - 1 : Nat) : Int); omega) (by simp)) (cr_one _) (by unfold maxLen; omega) (by omega) fun a3 c3 w4 k1 k2 k3 k4 => ?_; have HYK := Lib.hid (((IsBlk.new wr [.int .u64 (y1 : Int), .int .u64 (y2 : Int)] 56).alloc (.cells #[.int .u64 (at_ : Int), .int .u64 ((y1 : Int) - 1)] 56)).touch k2 HN1.out); have HXK := Lib.hid (((HB1.out.alloc (.cells #[.int .u64 (y1 : Int), .int .u64 (y2 : Int)] 56)).alloc (.cells #[.int .u64 (at_ : Int), .int .u64 ((y1 : Int) - 1)] 56)).touch k2 HN2.out); have ky := HYK.out.cell 1; have kx := HXK.out.cell 1; have kyl := HYK.out.lt; have kxl := HXK.out.lt; simp only [List.getElem?_cons_zero, List.getElem?_cons_succ] at ky kx)
                    go_meet
                    case rel => exact ⟨_, M ++ [(at_, y1 - 1)], at_, false, rfl, rfl, rfl, by omega, Lib.hid (by rw [HE.out, HG2.out, if_pos i3n, if_pos i4n]; simp), Lib.hid (by rw [List.length_append, cr_append]; exact k1), Lib.hid ((HTJ.out.trans (js := []) (by (repeat (first | exact Touch.refl _ _ | refine Touch.drewN ?_ _ | refine Touch.drew ?_ | refine Touch.alloc ?_ _))) (by simp)).trans k2 (fun g hg => HOJ.out g hg)), Lib.hid (fun g hg => (k3 g hg).elim (fun h => HOJ.out g h) (fun h => .inr (by have := HTJ.out.size; simp at h; omega)))⟩
                  · have i4n : ¬ x2 ≤ y2 := by omega
                    go_wp2_with (at_builtin; refine wpList_append_sl _ rfl (.tmp 49) (.tmp 55) 52 rfl 56 i0 _ 2 16 under27 hi0 hz0 hz1 hz2 rfl (by omega) (.slice va2 M.length vc2) M.length (cr M) rfl (HM.out.touch (ks := []) (by (repeat (first | exact Touch.refl _ _ | refine Touch.drewN ?_ _ | refine Touch.drew ?_ | refine Touch.alloc ?_ _))) (by simp)) (.slice (some ⟨wr.heap.size + 1, 0, none⟩) 1 1) 1 (cr [(at_, y1 - 1)]) rfl (Rd.newI (wr.alloc (.cells #[.int .u64 (y1 : Int), .int .u64 (y2 : Int)] 56)) (wr.heap.size + 1) (at_ : Int) ((y1 : Int) - 1) (at_, y1 - 1) rfl (by show (y1 : Int) - 1 = ((y1 - 1 : Nat) : Int); omega) (by simp)) (cr_one _) (by unfold maxLen; omega) (by omega) fun a3 c3 w4 k1 k2 k3 k4 => ?_; have HYK := Lib.hid (((IsBlk.new wr [.int .u64 (y1 : Int), .int .u64 (y2 : Int)] 56).alloc (.cells #[.int .u64 (at_ : Int), .int .u64 ((y1 : Int) - 1)] 56)).touch k2 HN1.out); have HXK := Lib.hid (((HB1.out.alloc (.cells #[.int .u64 (y1 : Int), .int .u64 (y2 : Int)] 56)).alloc (.cells #[.int .u64 (at_ : Int), .int .u64 ((y1 : Int) - 1)] 56)).touch k2 HN2.out); have ky := HYK.out.cell 1; have kx := HXK.out.cell 1; have kyl := HYK.out.lt; have kxl := HXK.out.lt; simp only [List.getElem?_cons_zero, List.getElem?_cons_succ] at ky kx)
                    go_roundw
                    case rel => exact ⟨j + 1, _, M ++ [(at_, y1 - 1)], y2 + 1, by omega, by go_num, rfl, by go_num, rfl, by omega, Lib.hid (by rw [HE.out, HG2.out, if_pos i3n, if_neg i4n]; simp), Lib.hid (by rw [List.length_append, cr_append]; exact k1), Lib.hid ((HTJ.out.trans (js := []) (by (repeat (first | exact Touch.refl _ _ | refine Touch.drewN ?_ _ | refine Touch.drew ?_ | refine Touch.alloc ?_ _))) (by simp)).trans k2 (fun g hg => HOJ.out g hg)), Lib.hid (fun g hg => (k3 g hg).elim (fun h => HOJ.out g h) (fun h => .inr (by have := HTJ.out.size; simp at h; omega)))⟩
                    case measure => simp [intOf]; omega
                · have i3n : ¬ at_ < y1 := by omega
                  by_cases i4 : (x2 : Int) ≤ (y2 : Int)
                  · have i4n : x2 ≤ y2 := by omega
                    go_wp2_with fail
                    go_meet
                    case rel => exact ⟨_, M, at_, false, rfl, rfl, rfl, by omega, Lib.hid (by rw [HE.out, HG2.out, if_neg i3n, if_pos i4n]; simp), Lib.hid (HM.out.touch (ks := []) (by (repeat (first | exact Touch.refl _ _ | refine Touch.drewN ?_ _ | refine Touch.drew ?_ | refine Touch.alloc ?_ _))) (by simp)), Lib.hid (HTJ.out.alloc _), HOJ⟩
                  · have i4n : ¬ x2 ≤ y2 := by omega
                    go_wp2_with fail
                    go_roundw
                    case rel => exact ⟨j + 1, _, M, y2 + 1, by omega, by go_num, rfl, by go_num, rfl, by omega, Lib.hid (by rw [HE.out, HG2.out, if_neg i3n, if_neg i4n]; simp), Lib.hid (HM.out.touch (ks := []) (by (repeat (first | exact Touch.refl _ _ | refine Touch.drewN ?_ _ | refine Touch.drew ?_ | refine Touch.alloc ?_ _))) (by simp)), Lib.hid (HTJ.out.alloc _), HOJ⟩
                    case measure => simp [intOf]; omega
          · obtain rfl : j = A.length := by omega
            go_wp2_with fail
            go_meet
            case rel => exact ⟨_, M, at_, true, rfl, rfl, rfl, by omega, Lib.hid (by rw [HE.out, List.drop_length]; rfl), HM, HTJ, HOJ⟩
      case rest =>
        obtain ⟨v2, M, at_, op, rfl, rfl, rfl, hat, HE, HM, HTJ, HOJ⟩ := hcut
        obtain ⟨va2, vc2, hve2, _⟩ := HM.out.form
        have hb1 := HX0.out.touch HTJ.out HXN.out
        have b1 := hb1.cell 1
        simp only [List.getElem?_cons_zero, List.getElem?_cons_succ] at b1
        have hbl := hb1.lt
        have hMl : M.length ≤ 100000 * 100001 := by have := congrArg List.length HE.out; rw [List.length_append, List.length_append] at this; omega
        subst hve2
        have HT3J : Hid (Touch [] w3 wc) := Lib.hid ((HTR.out.trans HT0.out (by simp)).trans HTJ.out (fun g hg => .inr (HO.out g hg)))
        have HOW : Hid (∀ g ∈ own (Value.slice va2 M.length vc2), w3.heap.size ≤ g) := Lib.hid fun g hg => (HOJ.out g hg).elim (HO.out g) (fun h => by have := HTR.out.size; have := HZ0.out; omega)
        clear hb1 e1 e2
        cases op with
        | true =>
          go_wp2_with (at_builtin; refine wpList_append_sl _ rfl (.tmp 67) (.tmp 72) 52 rfl 56 i0 _ 2 16 under27 hi0 hz0 hz1 hz2 rfl (by omega) (.slice va2 M.length vc2) M.length (cr M) rfl (HM.out.touch (ks := []) (by (repeat (first | exact Touch.refl _ _ | refine Touch.drewN ?_ _ | refine Touch.drew ?_ | refine Touch.alloc ?_ _))) (by simp)) (.slice (some ⟨wc.heap.size, 0, none⟩) 1 1) 1 (cr [(at_, x2)]) rfl (Rd.newI wc wc.heap.size (at_ : Int) (x2 : Int) (at_, x2) rfl rfl rfl) (cr_one _) (by unfold maxLen; omega) (by omega) fun a3 c3 w4 k1 k2 k3 k4 => ?_)
          go_roundg (l.length - (k + 1))
          case measure => omega
          case rel =>
            refine ⟨k + 1, _, rfl, by omega, by go_num, rfl, ?_, ?_, ?_⟩
            · rw [HWT.out, HE.out]
              exact Lib.hid (by simp only [if_true]; rw [List.length_append, cr_append]; exact k1)
            · exact Lib.hid ((HT3J.out.trans (js := []) (by (repeat (first | exact Touch.refl _ _ | refine Touch.drewN ?_ _ | refine Touch.drew ?_ | refine Touch.alloc ?_ _))) (by simp)).trans k2 (fun g hg => .inr (HOW.out g hg)))
            · exact Lib.hid (fun g hg => (k3 g hg).elim (HOW.out g) (fun h => by have := HT3J.out.size; simp at h; omega))
        | false =>
          go_wp2_with fail
          go_roundg (l.length - (k + 1))
          case measure => omega
          case rel =>
            refine ⟨k + 1, _, rfl, by omega, by go_num, rfl, ?_, HT3J, HOW⟩
            rw [HWT.out, HE.out]
            exact Lib.hid (by simpa using HM.out)
    · obtain rfl : k = l.length := by omega
      go_wp2_with fail
      go_ret
      refine ⟨_, rfl, ?_, HT3.out.trans HTR.out (by simp), fun g hg => Nat.le_trans HT3.out.size (HO.out g hg)⟩
      have := HS.out
      rw [List.take_length] at this
      exact this
end Go.Proofs.Ytmidlielcioinaa
