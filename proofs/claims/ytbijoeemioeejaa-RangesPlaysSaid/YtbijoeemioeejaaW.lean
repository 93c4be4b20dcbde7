/- The walk of the statement on scripts. Conditions: none. -/
import Derived.Test.YtbijoeemioeejaaL
import Derived.BigRegion
import Derived.IntWalk
namespace Go.Proofs.Ytbijoeemioeejaa
open Go.RowKit

/-- Both sides' sets, the same; the act that is read, in the block x. -/
def PlayB (wb w : World) (s x : Nat) (L : List Rng) (b : Nat) (what n m : Nat) : Prop :=
  Two wb w [x] s 50 L b (s + 1) 30 L b ∧ IsBlk w x [.int .u8 (what : Int), .int .u64 (n : Int), .int .u64 (m : Int)] 32
def Grew (wb w : World) (s x k : Nat) (what n m : Nat) : Prop := ∃ L b, L.length ≤ 2 * k ∧ PlayB wb w s x L b what n m

theorem rd_same {K : List Nat} {w w' : World} {b n c : Nat} {xs : List Value} (h : Rd w 1 (.slice (Option.some ⟨b, 0, none⟩) n c) n xs) (hs : Same K w w') (hb : b ∈ K) : Rd w' 1 (.slice (Option.some ⟨b, 0, none⟩) n c) n xs := by
  refine ⟨h.1, ?_⟩
  rcases h.2 with h2 | ⟨g, off, cap, he, hnc, hg, hc⟩
  · exact .inl h2
  simp at he
  obtain ⟨⟨rfl, rfl⟩, rfl⟩ := he
  refine .inr ⟨b, 0, c, rfl, hnc, fun h0 => ?_, fun j hj => ?_⟩
  · have h1 := (hs b hb).trans (Array.getElem?_eq_getElem (hg h0))
    exact (Array.getElem?_eq_some_iff.1 h1).1
  · rw [World.cell?_of_block (a := ⟨b, 0 + j, none⟩) (hs b hb)]
    exact hc j hj

set_option maxRecDepth 100000 in
set_option maxHeartbeats 8000000 in
theorem plays_walk (a : Option Addr) (c : Nat) (l : List Act1) (most : Int) (w : World) (hl : IsActs w a l) (h50 : l.length ≤ 50) :
    Calls Try.prog 3 #[.slice a l.length c, .int .i64 most] w fun e w' => e = .returned (.bool true) ∧ Touch [] w w' := by
  have HL := Lib.hid hl
  have HMX : Hid (mx = 4611686018427387903) := Lib.hid rfl
  clear hl
  have h50' : ¬ (50 : Int) < (l.length : Int) := by omega
  go_enter Try.func3, Try.ntmps3
  go_wp2_with fail
  refine (known_any _).mono ?_
  rintro e w1 ⟨rfl, hT⟩
  have HT1 := Lib.hid hT
  clear hT
  go_wp2_with fail
  refine (new_any _).mono ?_
  rintro e w2 ⟨rfl, rfl⟩
  obtain ⟨s, hs⟩ : ∃ s, s = w1.heap.size := ⟨_, rfl⟩
  obtain ⟨W, hW⟩ : ∃ W, W = (w1.alloc (.cells #[.slice none 0 0, .int .u64 0] 50)).alloc (.cells #[.slice none 0 0, .int .u64 0] 30) := ⟨_, rfl⟩
  have HB : Hid (Two w1 W [] s 50 [] 0 (s + 1) 30 [] 0) := Lib.hid (by rw [hs, hW]; exact Two.new w1 50 30)
  go_upto_block 0 with (fail)
  rw [← hW]
  try simp only [World.size_alloc]
  rw [← hs]
  clear hs hW
  go_wp2_with fail
  go_loopg [7] l.length (fun gk i wr => ∃ (k : Nat) (L : List Rng) (b : Nat), gk = l.length - k ∧ k ≤ l.length ∧ i = .int .i64 (k : Int) ∧ L.length ≤ 2 * k ∧ Hid (Two w1 wr [] s 50 L b (s + 1) 30 L b))
  case atStart => exact ⟨0, [], 0, by omega, by omega, by simp, by simp, HB⟩
  case round =>
    obtain ⟨k, L, b, rfl, hk, rfl, hLk, HJ⟩ := hrel
    by_cases hlt : k < l.length
    · have hlt' : (k : Int) < (l.length : Int) := by omega
      obtain ⟨x, hx⟩ : ∃ x, l[k]? = some x := ⟨_, List.getElem?_eq_getElem hlt⟩
      rcases HL.out.keep (HT1.out.trans HJ.out.base (by simp)) with rfl | ⟨g, o, rfl, hg, hc⟩
      · simp at hlt
      obtain ⟨c0, c1, c2, hw, hn, hm⟩ := hc k x hx
      obtain ⟨what, xn, xm⟩ := x
      simp only at c0 c1 c2 hw hn hm
      have HP : Hid (PlayB w1 (wr.alloc (.cells #[.int .u8 (what : Int), .int .u64 (xn : Int), .int .u64 (xm : Int)] 32)) s wr.heap.size L b what xn xm) := Lib.hid ⟨HJ.out.alloc _, IsBlk.new wr _ 32⟩
      clear hc hx
      have HPX := HP.out.2
      go_upto_block 2 with (fail)
      go_cut [] (fun wx => Grew w1 wx s wr.heap.size (k + 1) what xn xm)
      case first =>
        have HNM : Hid (xn < 18446744073709551616 ∧ xm < 18446744073709551616) := Lib.hid ⟨hn, hm⟩
        clear c0 c1 c2
        obtain ⟨wx, hwx⟩ : ∃ wx, wx = wr.alloc (.cells #[.int .u8 (what : Int), .int .u64 (xn : Int), .int .u64 (xm : Int)] 32) := ⟨_, rfl⟩
        rw [← hwx] at HP ⊢
        have HPB := Lib.hid HP.out.2
        have f1 := HPB.out.cell 1
        have f2 := HPB.out.cell 2
        have fl := HPB.out.lt
        simp only [List.getElem?_cons_zero, List.getElem?_cons_succ] at f1 f2
        clear hwx HPX
        by_cases hab : what % 4 ≤ 1
        · have hmm : ∃ m : Nat, (addL b [xn, xm] (L, 0)).2 = m := ⟨_, rfl⟩
          obtain ⟨m, hmm⟩ := hmm
          have HM := Lib.hid hmm
          have hneq : ((m : Int) != (m : Int)) = false := by simp
          have HLN := Lib.hid (addL_len b [xn, xm] (L, 0)).1
          clear hmm
          have hc : (((what : Int) % 4 == 0) = true) ∨ (((what : Int) % 4 == 0) = false ∧ ((what : Int) % 4 == 1) = true) := by
            rcases Nat.lt_or_ge (what % 4) 1 with h | h
            · exact .inl (by rw [beq_iff_eq]; omega)
            · exact .inr ⟨by rw [beq_eq_false_iff_ne]; omega, by rw [beq_iff_eq]; omega⟩
          have HA1 : Hid (Two w1 (wx.alloc (.cells #[.int .u64 (xn : Int), .int .u64 (xm : Int)] 28)).drew [wx.heap.size, wr.heap.size] s 50 L b (s + 1) 30 L b) := Lib.hid ((HP.out.1.alloc _).keep ((Touch.refl _ _).drew))
          have HP1 : Hid (IsBlk (wx.alloc (.cells #[.int .u64 (xn : Int), .int .u64 (xm : Int)] 28)).drew wr.heap.size [.int .u8 (what : Int), .int .u64 (xn : Int), .int .u64 (xm : Int)] 32) := Lib.hid (HPB.out.alloc _)
          have HR1 : Hid (Rd (wx.alloc (.cells #[.int .u64 (xn : Int), .int .u64 (xm : Int)] 28)).drew 1 (.slice (Option.some ⟨wx.heap.size, 0, none⟩) 2 2) 2 (us [xn, xm])) := Lib.hid ((rd_us wx [xn, xm]).touch (ks := []) ((Touch.refl _ _).drew) (by simp))
          have HA2 : Hid (Two w1 ((wx.alloc (.cells #[.int .u64 (xn : Int), .int .u64 (xm : Int)] 28)).alloc (.cells #[.int .u64 (xn : Int), .int .u64 (xm : Int)] 28)).drew [wx.heap.size + 1, wx.heap.size, wr.heap.size] s 50 L b (s + 1) 30 L b) := Lib.hid (by
            have := ((HP.out.1.alloc (.cells #[.int .u64 (xn : Int), .int .u64 (xm : Int)] 28)).alloc (.cells #[.int .u64 (xn : Int), .int .u64 (xm : Int)] 28)).keep ((Touch.refl [] _).drew)
            rw [World.size_alloc] at this
            exact this)
          have HP2 : Hid (IsBlk ((wx.alloc (.cells #[.int .u64 (xn : Int), .int .u64 (xm : Int)] 28)).alloc (.cells #[.int .u64 (xn : Int), .int .u64 (xm : Int)] 28)).drew wr.heap.size [.int .u8 (what : Int), .int .u64 (xn : Int), .int .u64 (xm : Int)] 32) := Lib.hid ((HPB.out.alloc _).alloc _)
          have HR2 : Hid (Rd ((wx.alloc (.cells #[.int .u64 (xn : Int), .int .u64 (xm : Int)] 28)).alloc (.cells #[.int .u64 (xn : Int), .int .u64 (xm : Int)] 28)).drew 1 (.slice (Option.some ⟨wx.heap.size, 0, none⟩) 2 2) 2 (us [xn, xm])) := Lib.hid ((rd_us wx [xn, xm]).touch (ks := []) (((Touch.refl _ _).alloc _).drew) (by simp))
          have HR3 : Hid (Rd ((wx.alloc (.cells #[.int .u64 (xn : Int), .int .u64 (xm : Int)] 28)).alloc (.cells #[.int .u64 (xn : Int), .int .u64 (xm : Int)] 28)).drew 1 (.slice (Option.some ⟨wx.heap.size + 1, 0, none⟩) 2 2) 2 (us [xn, xm])) := Lib.hid (by
            have := rd_us (wx.alloc (.cells #[.int .u64 (xn : Int), .int .u64 (xm : Int)] 28)) [xn, xm]
            rw [World.size_alloc] at this
            exact this.touch (ks := []) ((Touch.refl _ _).drew) (by simp))
          rcases hc with e0 | ⟨e0, e1⟩
          all_goals
            go_wp2_with fail
            go_region_held3 (fun w' => w'.cell? ⟨wr.heap.size, 1, none⟩ = some (.int .u64 (xn : Int)) ∧ w'.cell? ⟨wr.heap.size, 2, none⟩ = some (.int .u64 (xm : Int))) (go_keep) (first | (go_at_call 9; (with_reducible refine (HA1.out.add (a := Option.some ⟨wx.heap.size, 0, none⟩) (n := 2) (cap := 2) [xn, xm] HR1.out (by intro g hg; rw [(mem_own hg).1]; simp) rfl (by omega) (by intro z hz; simp only [List.mem_cons, List.not_mem_nil, or_false] at hz; rcases hz with rfl | rfl; exact HNM.out.1; exact HNM.out.2)).mono ?_); rw [HM.out]; rintro e w3 ⟨rfl, hB, hS⟩; have HB3 := Lib.hid hB; have HX3 := Lib.hid (HP1.out.same hS (by simp)); have f1 := HX3.out.cell 1; have f2 := HX3.out.cell 2; simp only [List.getElem?_cons_zero, List.getElem?_cons_succ] at f1 f2; have HB4 := Lib.hid (hB.alloc (.cells #[.int .u64 (xn : Int), .int .u64 (xm : Int)] 28)); have HX4 := Lib.hid (HX3.out.alloc (.cells #[.int .u64 (xn : Int), .int .u64 (xm : Int)] 28)); have HRB : Hid (Rd (w3.alloc (.cells #[.int .u64 (xn : Int), .int .u64 (xm : Int)] 28)) 1 (.slice (Option.some ⟨w3.heap.size, 0, none⟩) 2 2) 2 (us [xn, xm])) := Lib.hid (rd_us w3 [xn, xm]); clear hB hS) | (go_at_call 9; (with_reducible refine (HA2.out.add (a := Option.some ⟨wx.heap.size, 0, none⟩) (n := 2) (cap := 2) [xn, xm] HR2.out (by intro g hg; rw [(mem_own hg).1]; simp) rfl (by omega) (by intro z hz; simp only [List.mem_cons, List.not_mem_nil, or_false] at hz; rcases hz with rfl | rfl; exact HNM.out.1; exact HNM.out.2)).mono ?_); rw [HM.out]; rintro e w3 ⟨rfl, hB, hS⟩; have HB4 := Lib.hid hB; have HX4 := Lib.hid (HP2.out.same hS (by simp)); have f1 := HX4.out.cell 1; have f2 := HX4.out.cell 2; simp only [List.getElem?_cons_zero, List.getElem?_cons_succ] at f1 f2; have HRB := Lib.hid (rd_same (b := wx.heap.size + 1) HR3.out hS (by simp)); clear hB hS) | (go_at_call 9; (with_reducible refine (HA2.out.add (a := Option.some ⟨wx.heap.size + 1, 0, none⟩) (n := 2) (cap := 2) [xn, xm] HR3.out (by intro g hg; rw [(mem_own hg).1]; simp) rfl (by omega) (by intro z hz; simp only [List.mem_cons, List.not_mem_nil, or_false] at hz; rcases hz with rfl | rfl; exact HNM.out.1; exact HNM.out.2)).mono ?_); rw [HM.out]; rintro e w3 ⟨rfl, hB, hS⟩; have HB4 := Lib.hid hB; have HX4 := Lib.hid (HP2.out.same hS (by simp)); have f1 := HX4.out.cell 1; have f2 := HX4.out.cell 2; simp only [List.getElem?_cons_zero, List.getElem?_cons_succ] at f1 f2; have HRB := Lib.hid (rd_same (b := wx.heap.size) HR2.out hS (by simp)); clear hB hS) | (go_at_call 10; (with_reducible refine (HB4.out.symm.addR (a := Option.some ⟨w3.heap.size, 0, none⟩) (n := 2) (cap := 2) [xn, xm] HRB.out (by intro g hg; rw [(mem_own hg).1]; simp) rfl (by omega) (by intro z hz; simp only [List.mem_cons, List.not_mem_nil, or_false] at hz; rcases hz with rfl | rfl; exact HNM.out.1; exact HNM.out.2)).mono ?_); rw [HM.out]; rintro e w4 ⟨rfl, hB, hS⟩; have HB5 := Lib.hid hB.symm; have HX5 := Lib.hid (HX4.out.same hS (by simp)); have f1 := HX5.out.cell 1; have f2 := HX5.out.cell 2; simp only [List.getElem?_cons_zero, List.getElem?_cons_succ] at f1 f2; clear hB hS) | (go_at_call 10; (with_reducible refine (HB4.out.symm.addR (a := Option.some ⟨wx.heap.size + 1, 0, none⟩) (n := 2) (cap := 2) [xn, xm] HRB.out (by intro g hg; rw [(mem_own hg).1]; simp) rfl (by omega) (by intro z hz; simp only [List.mem_cons, List.not_mem_nil, or_false] at hz; rcases hz with rfl | rfl; exact HNM.out.1; exact HNM.out.2)).mono ?_); rw [HM.out]; rintro e w4 ⟨rfl, hB, hS⟩; have HB5 := Lib.hid hB.symm; have HX5 := Lib.hid (HX4.out.same hS (by simp)); have f1 := HX5.out.cell 1; have f2 := HX5.out.cell 2; simp only [List.getElem?_cons_zero, List.getElem?_cons_succ] at f1 f2; clear hB hS) | (go_at_call 10; (with_reducible refine (HB4.out.symm.addR (a := Option.some ⟨wx.heap.size, 0, none⟩) (n := 2) (cap := 2) [xn, xm] HRB.out (by intro g hg; rw [(mem_own hg).1]; simp) rfl (by omega) (by intro z hz; simp only [List.mem_cons, List.not_mem_nil, or_false] at hz; rcases hz with rfl | rfl; exact HNM.out.1; exact HNM.out.2)).mono ?_); rw [HM.out]; rintro e w4 ⟨rfl, hB, hS⟩; have HB5 := Lib.hid hB.symm; have HX5 := Lib.hid (HX4.out.same hS (by simp)); have f1 := HX5.out.cell 1; have f2 := HX5.out.cell 2; simp only [List.getElem?_cons_zero, List.getElem?_cons_succ] at f1 f2; clear hB hS))
            all_goals go_wp2_with fail
            all_goals go_meet
            all_goals
              case rel => exact ⟨_, _, by have := HLN.out; simp at this; omega, HB5.out.less (by simp), HX5.out⟩
        · have e0 : ((what : Int) % 4 == 0) = false := by rw [beq_eq_false_iff_ne]; omega
          have e1 : ((what : Int) % 4 == 1) = false := by rw [beq_eq_false_iff_ne]; omega
          by_cases h2 : what % 4 = 2
          · have e2 : ((what : Int) % 4 == 2) = true := by rw [beq_iff_eq]; omega
            have hsl := spOp_len L b xn xm
            go_wp2_with fail
            refine (HP.out.1.span xn xm (by omega) HNM.out.1 HNM.out.2).mono ?_
            rintro e w3 ⟨rfl, hB, hS⟩
            have HB3 := Lib.hid hB
            have HX3 := Lib.hid (HPB.out.same hS (by simp))
            have f1 := HX3.out.cell 1
            have f2 := HX3.out.cell 2
            simp only [List.getElem?_cons_zero, List.getElem?_cons_succ] at f1 f2
            clear hB hS
            go_wp2_with fail
            refine (HB3.out.symm.spanR xn xm (by omega) HNM.out.1 HNM.out.2).mono ?_
            rintro e w4 ⟨rfl, hB, hS⟩
            have HB5 := Lib.hid hB.symm
            have HX5 := Lib.hid (HX3.out.same hS (by simp))
            clear hB hS
            go_wp2_with fail
            go_meet
            case rel => exact ⟨_, _, by omega, HB5.out, HX5.out⟩
          · have e2 : ((what : Int) % 4 == 2) = false := by rw [beq_eq_false_iff_ne]; omega
            obtain ⟨q, hq⟩ : ∃ q, q = min xn mx := ⟨_, rfl⟩
            have hqm : q ≤ mx := by omega
            have HQ : Hid (min (xn : Int) 4611686018427387903 = (q : Int)) := Lib.hid (by have := HMX.out; omega)
            have hfl := fgt_len L (max b q)
            clear hq
            go_wp2_with fail
            rw [HQ.out]
            refine (HP.out.1.forget q (by omega) hqm).mono ?_
            rintro e w3 ⟨rfl, hB, hS⟩
            have HB3 := Lib.hid hB
            have HX3 := Lib.hid (HPB.out.same hS (by simp))
            have f1 := HX3.out.cell 1
            have f2 := HX3.out.cell 2
            simp only [List.getElem?_cons_zero, List.getElem?_cons_succ] at f1 f2
            clear hB hS
            go_wp2_with fail
            rw [HQ.out]
            refine (HB3.out.symm.forgetR q (by omega) hqm).mono ?_
            rintro e w4 ⟨rfl, hB, hS⟩
            have HB5 := Lib.hid hB.symm
            have HX5 := Lib.hid (HX3.out.same hS (by simp))
            clear hB hS
            go_wp2_with fail
            go_meet
            case rel => exact ⟨_, _, by omega, HB5.out, HX5.out⟩
      case rest =>
        obtain ⟨L', b', hL', hP'⟩ := hcut
        have HB' := Lib.hid hP'.1
        have HX' := Lib.hid hP'.2
        have f1 := hP'.2.cell 1
        have f2 := hP'.2.cell 2
        have fl := hP'.2.lt
        simp only [List.getElem?_cons_zero, List.getElem?_cons_succ] at f1 f2
        clear hP' HPX HP HJ c0 c1 c2
        obtain ⟨m1, hm1⟩ : ∃ m1, m1 = (xm + 1) % 18446744073709551616 := ⟨_, rfl⟩
        have hw1 : IntKind.u64.wrap ((xm : Int) + 1) = (m1 : Int) := by rw [IntKind.wrap_u64, hm1]; omega
        obtain ⟨B1, hB1⟩ : ∃ B1, hasB xn L' = B1 := ⟨_, rfl⟩
        obtain ⟨B2, hB2⟩ : ∃ B2, hasB m1 L' = B2 := ⟨_, rfl⟩
        obtain ⟨u, hu⟩ : ∃ u, cnt L' = u := ⟨_, rfl⟩
        have H1 := Lib.hid hB1
        have H2 := Lib.hid hB2
        have HU := Lib.hid hu
        have g1 : (B1 != B1) = false := by simp
        have g2 : (B2 != B2) = false := by simp
        have g3 : ((u : Int) != (u : Int)) = false := by simp
        have HTT : Hid (Touch [] wc wc.drew) := Lib.hid ((Touch.refl _ _).drew)
        clear hm1 hB1 hB2 hu hm hn
        go_wp2_with fail
        go_region_held3 (fun w' => w'.cell? ⟨wr.heap.size, 1, none⟩ = some (.int .u64 (xn : Int)) ∧ w'.cell? ⟨wr.heap.size, 2, none⟩ = some (.int .u64 (xm : Int))) (go_keep) (first | (go_at_call 15; refine ((HB'.out.keep HTT.out).has _).mono ?_; (first | rw [H1.out] | rw [H2.out]); rintro e wz ⟨rfl, hT⟩; have HTT := Lib.hid (HTT.out.trans hT (by simp)); clear hT; have f1 := (HX'.out.touch HTT.out (by simp)).cell 1; have f2 := (HX'.out.touch HTT.out (by simp)).cell 2; simp only [List.getElem?_cons_zero, List.getElem?_cons_succ] at f1 f2) | (go_at_call 16; refine ((HB'.out.keep HTT.out).symm.hasR _).mono ?_; (first | rw [H1.out] | rw [H2.out]); rintro e wz ⟨rfl, hT⟩; have HTT := Lib.hid (HTT.out.trans hT (by simp)); clear hT; have f1 := (HX'.out.touch HTT.out (by simp)).cell 1; have f2 := (HX'.out.touch HTT.out (by simp)).cell 2; simp only [List.getElem?_cons_zero, List.getElem?_cons_succ] at f1 f2) | (go_at_call 17; refine ((HB'.out.keep HTT.out).count).mono ?_; rw [HU.out]; rintro e wz ⟨rfl, hT⟩; have HTT := Lib.hid (HTT.out.trans hT (by simp)); clear hT; have f1 := (HX'.out.touch HTT.out (by simp)).cell 1; have f2 := (HX'.out.touch HTT.out (by simp)).cell 2; simp only [List.getElem?_cons_zero, List.getElem?_cons_succ] at f1 f2) | (go_at_call 18; refine ((HB'.out.keep HTT.out).symm.countR).mono ?_; rw [HU.out]; rintro e wz ⟨rfl, hT⟩; have HTT := Lib.hid (HTT.out.trans hT (by simp)); clear hT; have f1 := (HX'.out.touch HTT.out (by simp)).cell 1; have f2 := (HX'.out.touch HTT.out (by simp)).cell 2; simp only [List.getElem?_cons_zero, List.getElem?_cons_succ] at f1 f2) | (go_at_call 20; refine ((HB'.out.keep HTT.out).ranges _ (by omega)).mono ?_; rintro e wz ⟨v1, rfl, k1, hT, _⟩; have K1 := Lib.hid k1; have HTT := Lib.hid (HTT.out.trans hT (by simp)); clear hT; have f1 := (HX'.out.touch HTT.out (by simp)).cell 1; have f2 := (HX'.out.touch HTT.out (by simp)).cell 2; simp only [List.getElem?_cons_zero, List.getElem?_cons_succ] at f1 f2; clear k1) | (go_at_call 21; refine ((HB'.out.keep HTT.out).symm.rangesR _ (by omega)).mono ?_; rintro e wz ⟨v2, rfl, k2, hT, _⟩; have K2 := Lib.hid k2; have K1 := Lib.hid (K1.out.touch hT (by simp)); have HTT := Lib.hid (HTT.out.trans hT (by simp)); clear hT; have f1 := (HX'.out.touch HTT.out (by simp)).cell 1; have f2 := (HX'.out.touch HTT.out (by simp)).cell 2; simp only [List.getElem?_cons_zero, List.getElem?_cons_succ] at f1 f2; clear k2) | (go_at_call 19; refine (alike_same _ _ _ _ K1.out K2.out (Nat.le_trans (List.length_take_le' _ _) (by simp; omega))).mono ?_; rintro e wz ⟨rfl, hT⟩; have HTT := Lib.hid (HTT.out.trans hT (by simp)); clear hT; have f1 := (HX'.out.touch HTT.out (by simp)).cell 1; have f2 := (HX'.out.touch HTT.out (by simp)).cell 2; simp only [List.getElem?_cons_zero, List.getElem?_cons_succ] at f1 f2))
        go_wp2_with fail
        go_roundg (l.length - (k + 1))
        case measure => omega
        case rel => exact ⟨k + 1, L', b', rfl, by omega, by go_num, by omega, Lib.hid ((HB'.out.less (by simp)).keep HTT.out)⟩
    · obtain rfl : k = l.length := by omega
      go_wp2_with fail
      go_ret
      exact ⟨rfl, HT1.out.trans HJ.out.base (by simp)⟩

/-- Too many: nothing is said. -/
theorem plays_many (a : Option Addr) (n c : Nat) (most : Int) (w : World) (h50 : 50 < n) :
    Calls Try.prog 3 #[.slice a n c, .int .i64 most] w fun e w' => e = .returned (.bool true) ∧ Touch [] w w' := by
  have h50' : (50 : Int) < (n : Int) := by omega
  go_enter Try.func3, Try.ntmps3
  go_wp2_with fail
  refine (known_any _).mono ?_
  rintro e w1 ⟨rfl, hT⟩
  have HT1 := Lib.hid hT
  clear hT
  go_wp2_with fail
  go_ret
  exact ⟨rfl, HT1.out⟩
end Go.Proofs.Ytbijoeemioeejaa
