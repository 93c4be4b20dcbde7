/- The walk of HalfPlays. Conditions: none. -/
import Derived.Test.YtmidlielcioinaaHH
import Derived.Test.YtmidlielcioinaaHI
namespace Go.Proofs.Ytmidlielcioinaa
open Go.RowKit

set_option maxRecDepth 100000 in
theorem plays_many (w : World) (n : Int) (a : Option Addr) (m c : Nat) (hm : 50 < m) : Calls Try.prog 7 #[.int .u64 n, .slice a m c] w fun e w' => e = .returned (.bool true) ∧ Touch [] w w' := by
  have hm' : (50 : Int) < (m : Int) := by omega
  go_enter Try.func7, Try.ntmps7
  go_wp2_with fail
  refine (known_any _).mono ?_
  rintro e w1 ⟨rfl, hT⟩
  have T1 := Lib.hid hT
  clear hT
  go_wp2_with fail
  go_ret
  exact ⟨rfl, T1.out⟩

set_option maxHeartbeats 8000000 in
set_option maxRecDepth 100000 in
theorem plays_walk (w : World) (n : Nat) (a : Option Addr) (c : Nat) (l : List Act5) (hl : IsActs w a l) (hn : n < 18446744073709551616) (h50 : l.length ≤ 50) :
    Calls Try.prog 7 #[.int .u64 (n : Int), .slice a l.length c] w fun e w' => e = .returned (.bool true) ∧ Touch [] w w' := by
  have HL := Lib.hid hl
  have hm' : ¬ (50 : Int) < (l.length : Int) := by omega
  have hn0 : (0 : Int) ≤ (n : Int) := by omega
  clear hl
  go_enter Try.func7, Try.ntmps7
  go_wp2_with fail
  refine (known_any _).mono ?_
  rintro e w1 ⟨rfl, hT⟩
  have T1 := Lib.hid hT
  clear hT
  go_upto_if 29 with fail
  go_cut [0] (fun s0 wx => (∃ m : Nat, s0 = .int .u64 (m : Int)) ∧ wx = w1)
  case first =>
    by_cases h4 : (0 : Int) < (n : Int) % 4
    · go_wp2_with fail
      go_meet
      case rel => exact ⟨⟨n % 100, by simp⟩, rfl⟩
    · go_wp2_with fail
      go_meet
      case rel => exact ⟨⟨n, rfl⟩, rfl⟩
  case rest =>
  obtain ⟨⟨m, rfl⟩, rfl⟩ := hcut
  clear hn0
  go_wp2_with fail
  refine (pr_new w _ m T1.out).mono ?_
  rintro e w2 ⟨p, rfl, _, F, h1, h2, h3⟩
  have A2 := Lib.hid (And.intro h1 (And.intro h2 h3))
  clear h1 h2 h3
  go_wp2_with fail
  refine (pr_new2 A2.out.1 A2.out.2.1 A2.out.2.2).mono ?_
  rintro e w3 ⟨q, rfl, h⟩
  have A3 := Lib.hid h
  clear h
  go_wp2_with fail
  go_loopw [7] (fun i wr => ∃ (k : Nat) (σ : Snd), k ≤ l.length ∧ i = .int .i64 (k : Int) ∧ Hid (Pair w wr p q σ σ [] []) ∧ Hid (Pl σ) ∧ Hid (σ.b.length ≤ 30 * k)) (fun i _ => l.length - (intOf i).toNat)
  case atStart => exact ⟨0, snd0 m, by omega, by simp, A3, Lib.hid (new_pl m), Lib.hid (by simp [snd0])⟩
  case round =>
    obtain ⟨k, σ, hk, rfl, HJ, HPL, HLN⟩ := hrel
    by_cases hlt : k < l.length
    · have hlt' : (k : Int) < (l.length : Int) := by omega
      obtain ⟨x, hx⟩ : ∃ x, l[k]? = some x := ⟨_, List.getElem?_eq_getElem hlt⟩
      rcases HL.out with h0 | ⟨bb, off, rfl, hbb, hc⟩
      · subst h0; simp at hlt
      obtain ⟨⟨x0, x1, x2, x3, x4⟩, xr, y0, y1, y2, y3⟩ := hc k x hx
      have x0 := HJ.out.touch.cell x0 (by simp)
      have x1 := HJ.out.touch.cell x1 (by simp)
      have x2 := HJ.out.touch.cell x2 (by simp)
      have x3 := HJ.out.touch.cell x3 (by simp)
      have x4 := HJ.out.touch.cell x4 (by simp)
      have hbb := Nat.lt_of_lt_of_le hbb HJ.out.touch.size
      have XR := Lib.hid xr
      obtain ⟨xa, xc, hxv⟩ := xr.form
      rw [hxv] at x3 XR
      clear hc hx xr hxv
      go_upto_region 12 with fail
      obtain ⟨W, hW⟩ : ∃ W, W = wr.alloc (.cells #[.int .u8 (x.what : Int), .int .u64 (x.off : Int), .int .i64 x.n, .slice xa x.b.length xc, .bool x.fin] 47) := ⟨_, rfl⟩
      rw [← hW]
      have HX : Hid (Pair w W p q σ σ [] [(wr.heap.size, [.int .u8 (x.what : Int), .int .u64 (x.off : Int), .int .i64 x.n, .slice xa x.b.length xc, .bool x.fin])]) := Lib.hid (HJ.out.lay (by rw [hW]; exact (Touch.refl _ _).alloc _) (by rw [hW]; exact IsBlk.new wr [.int .u8 (x.what : Int), .int .u64 (x.off : Int), .int .i64 x.n, .slice xa x.b.length xc, .bool x.fin] 47) rfl)
      clear hW HJ x0 x1 x2 x3 x4 hbb
      have e0 := HX.out.blk.cell 0
      have e1 := HX.out.blk.cell 1
      have e2 := HX.out.blk.cell 2
      have e3 := HX.out.blk.cell 3
      have e4 := HX.out.blk.cell 4
      have el := HX.out.blk.lt
      simp only [List.getElem?_cons_zero, List.getElem?_cons_succ] at e0 e1 e2 e3 e4
      by_cases h30 : (30 : Int) < (x.b.length : Int)
      · have HT := Lib.hid HX.out.touch
        go_wp2_with fail
        go_ret
        exact ⟨rfl, HT.out⟩
      have HLX : Hid (σ.b.length + x.b.length ≤ 30 * (k + 1)) := Lib.hid (by have := HLN.out; omega)
      have HL5 : Hid (σ.b.length + x.b.length ≤ 50000) := Lib.hid (by have := HLN.out; omega)
      have z0 : (0 : Int) ≤ (x.what : Int) := by omega
      have z1 : (0 : Int) ≤ (x.off : Int) := by omega
      go_upto_if 56 with fail
      go_cut [9] from 46 to 186 (fun s9 wx => (∃ of : Nat, s9 = .int .u64 (of : Int) ∧ of < 18446744073709551616) ∧ wx = W)
      case first =>
        by_cases h4 : (0 : Int) < (x.what : Int) / 8 % 8
        · go_wp2_with fail
          go_meet
          case rel => exact ⟨⟨x.off % 60, by simp, by omega⟩, rfl⟩
        · go_wp2_with fail
          go_meet
          case rel => exact ⟨⟨x.off, rfl, y1⟩, rfl⟩
      case rest =>
      obtain ⟨⟨of, rfl, hof⟩, rfl⟩ := hcut
      have z2 : (0 : Int) ≤ (of : Int) := by omega
      clear z1 y1
      go_upto_block 2 with fail
      go_cut [10, 11, 12, 13, 14, 15, 16, 17, 18, 19, 20, 21] from 36 to 186 (fun s10 s11 s12 s13 s14 s15 s16 s17 s18 s19 s20 s21 wx => ∃ σ', Hid (Pair w wx p q σ' σ' [] [(wr.heap.size, [.int .u8 (x.what : Int), .int .u64 (x.off : Int), .int .i64 x.n, .slice xa x.b.length xc, .bool x.fin])]) ∧ Hid (Pl σ') ∧ Hid (σ'.b.length ≤ 30 * (k + 1)))
      case first =>
        have hr8 : (x.what : Int) % 8 = 0 ∨ (x.what : Int) % 8 = 1 ∨ (x.what : Int) % 8 = 2 ∨ (x.what : Int) % 8 = 3 ∨ (x.what : Int) % 8 = 4 ∨ (x.what : Int) % 8 = 5 ∨ (x.what : Int) % 8 = 6 ∨ (x.what : Int) % 8 = 7 := by omega
        rcases hr8 with hr | hr | hr | hr | hr | hr | hr | hr
        · skip
          obtain ⟨β, hβ⟩ : ∃ β, β = !(σ.ended || σ.reset) := ⟨_, rfl⟩
          have HBW := Lib.hid hβ
          clear hβ
          go_wp2_with fail
          go_region_held3 (fun w' => w'.cell? ⟨wr.heap.size, 3, none⟩ = some (.slice xa x.b.length xc) ∧ w'.cell? ⟨wr.heap.size, 4, none⟩ = some (.bool x.fin)) (go_keep) (first | (go_at_call 10; refine (pr_write_s (HX.out.keep ((Touch.refl [] _).drew)) _ x.b.length x.b x.fin (XR.out.touch (HX.out.touch.drew) (by simp)) rfl HL5.out).mono ?_; rw [← HBW.out]; rintro e w5 ⟨rfl, h⟩; have P5 := Lib.hid h; have f3 := P5.out.blk.cell 3; have f4 := P5.out.blk.cell 4; have fl := P5.out.blk.lt; simp only [List.getElem?_cons_zero, List.getElem?_cons_succ] at f3 f4; clear h) | (go_at_call 21; refine (pr_write_h P5.out HPL.out _ x.b.length x.b x.fin (XR.out.touch P5.out.touch (by simp)) rfl HL5.out).mono ?_; rw [← HBW.out]; rintro e w6 ⟨rfl, h⟩; have P6 := Lib.hid h; have g3 := P6.out.blk.cell 3; have g4 := P6.out.blk.cell 4; have gl := P6.out.blk.lt; simp only [List.getElem?_cons_zero, List.getElem?_cons_succ] at g3 g4; clear h))
          go_wp2_with fail
          go_meet
          case rel => exact ⟨_, P6, Lib.hid (write_pl HPL.out _ _ HL5.out), Lib.hid (by
            unfold writeS
            split
            · have := HLX.out; omega
            · show (σ.b ++ x.b).length ≤ _; rw [List.length_append]; exact HLX.out)⟩
        · skip
          obtain ⟨β, hβ⟩ : ∃ β, β = !(σ.ended || σ.reset) := ⟨_, rfl⟩
          have HBW := Lib.hid hβ
          clear hβ
          go_wp2_with fail
          go_region_held3 (fun w' => w'.cell? ⟨wr.heap.size, 3, none⟩ = some (.slice xa x.b.length xc) ∧ w'.cell? ⟨wr.heap.size, 4, none⟩ = some (.bool x.fin)) (go_keep) (first | (go_at_call 10; refine (pr_write_s (HX.out.keep ((Touch.refl [] _).drew)) _ x.b.length x.b x.fin (XR.out.touch (HX.out.touch.drew) (by simp)) rfl HL5.out).mono ?_; rw [← HBW.out]; rintro e w5 ⟨rfl, h⟩; have P5 := Lib.hid h; have f3 := P5.out.blk.cell 3; have f4 := P5.out.blk.cell 4; have fl := P5.out.blk.lt; simp only [List.getElem?_cons_zero, List.getElem?_cons_succ] at f3 f4; clear h) | (go_at_call 21; refine (pr_write_h P5.out HPL.out _ x.b.length x.b x.fin (XR.out.touch P5.out.touch (by simp)) rfl HL5.out).mono ?_; rw [← HBW.out]; rintro e w6 ⟨rfl, h⟩; have P6 := Lib.hid h; have g3 := P6.out.blk.cell 3; have g4 := P6.out.blk.cell 4; have gl := P6.out.blk.lt; simp only [List.getElem?_cons_zero, List.getElem?_cons_succ] at g3 g4; clear h))
          go_wp2_with fail
          go_meet
          case rel => exact ⟨_, P6, Lib.hid (write_pl HPL.out _ _ HL5.out), Lib.hid (by
            unfold writeS
            split
            · have := HLX.out; omega
            · show (σ.b ++ x.b).length ≤ _; rw [List.length_append]; exact HLX.out)⟩
        · skip
          obtain ⟨o1, b1, f1, k1, σ1, hR⟩ : ∃ o b f k s, nextS σ x.n.toNat = ((o, b, f, k), s) := ⟨_, _, _, _, _, rfl⟩
          have HR := Lib.hid hR
          have HP1 : Hid (Pl σ1) := Lib.hid (by have := next_pl HPL.out x.n; rw [hR] at this; exact this)
          have HB1 : Hid (σ1.b = σ.b) := Lib.hid (by have := next_b σ x.n.toNat; rw [hR] at this; exact this)
          clear hR
          go_wp2_with fail
          refine (pr_next_s HX.out x.n y3).mono ?_
          rw [HR.out]
          rintro e w5 ⟨v1, rfl, hv1, h⟩
          have P5 := Lib.hid h
          obtain ⟨va, vc, rfl⟩ := hv1.form
          have f2 := h.blk.cell 2
          have fl := h.blk.lt
          simp only [List.getElem?_cons_zero, List.getElem?_cons_succ] at f2
          clear h hv1
          go_wp2_with fail
          refine (pr_next_h P5.out HPL.out x.n y3).mono ?_
          rw [HR.out]
          rintro e w6 ⟨v2, rfl, hv2, h⟩
          have P6 := Lib.hid h.drop
          obtain ⟨ua, uc, rfl⟩ := hv2.form
          have kS2 := conv_str w6 _ _ _ rfl hv2
          have kS1 := conv_str w6 _ _ _ rfl h.rd
          clear h hv2
          go_wp2_with fail
          go_meet
          case rel => exact ⟨_, P6, HP1, Lib.hid (by rw [HB1.out]; have := HLX.out; omega)⟩
        · skip
          obtain ⟨o1, b1, f1, k1, σ1, hR⟩ : ∃ o b f k s, nextS σ x.n.toNat = ((o, b, f, k), s) := ⟨_, _, _, _, _, rfl⟩
          have HR := Lib.hid hR
          have HP1 : Hid (Pl σ1) := Lib.hid (by have := next_pl HPL.out x.n; rw [hR] at this; exact this)
          have HB1 : Hid (σ1.b = σ.b) := Lib.hid (by have := next_b σ x.n.toNat; rw [hR] at this; exact this)
          clear hR
          go_wp2_with fail
          refine (pr_next_s HX.out x.n y3).mono ?_
          rw [HR.out]
          rintro e w5 ⟨v1, rfl, hv1, h⟩
          have P5 := Lib.hid h
          obtain ⟨va, vc, rfl⟩ := hv1.form
          have f2 := h.blk.cell 2
          have fl := h.blk.lt
          simp only [List.getElem?_cons_zero, List.getElem?_cons_succ] at f2
          clear h hv1
          go_wp2_with fail
          refine (pr_next_h P5.out HPL.out x.n y3).mono ?_
          rw [HR.out]
          rintro e w6 ⟨v2, rfl, hv2, h⟩
          have P6 := Lib.hid h.drop
          obtain ⟨ua, uc, rfl⟩ := hv2.form
          have kS2 := conv_str w6 _ _ _ rfl hv2
          have kS1 := conv_str w6 _ _ _ rfl h.rd
          clear h hv2
          go_wp2_with fail
          go_meet
          case rel => exact ⟨_, P6, HP1, Lib.hid (by rw [HB1.out]; have := HLX.out; omega)⟩
        · skip
          go_wp2_with fail
          refine (pr_lost_s HX.out of x.n x.fin y3 hof).mono ?_
          rintro e w5 ⟨rfl, h⟩
          have P5 := Lib.hid h
          have f2 := h.blk.cell 2
          have f4 := h.blk.cell 4
          have fl := h.blk.lt
          simp only [List.getElem?_cons_zero, List.getElem?_cons_succ] at f2 f4
          clear h
          go_wp2_with fail
          refine (pr_lost_h P5.out HPL.out of x.n x.fin y3 hof).mono ?_
          rintro e w6 ⟨rfl, h⟩
          have P6 := Lib.hid h
          clear h
          go_wp2_with fail
          go_meet
          case rel => exact ⟨_, P6, Lib.hid (lost_pl HPL.out _ _ _), Lib.hid (by rw [lostS_f]; show σ.b.length ≤ _; have := HLX.out; omega)⟩
        · skip
          go_wp2_with fail
          refine (pr_acked_s HX.out of x.n x.fin y3 hof).mono ?_
          rintro e w5 ⟨rfl, h⟩
          have P5 := Lib.hid h
          have f2 := h.blk.cell 2
          have f4 := h.blk.cell 4
          have fl := h.blk.lt
          simp only [List.getElem?_cons_zero, List.getElem?_cons_succ] at f2 f4
          clear h
          go_wp2_with fail
          refine (pr_acked_h P5.out HPL.out of x.n x.fin y3 hof).mono ?_
          rintro e w6 ⟨rfl, h⟩
          have P6 := Lib.hid h
          clear h
          go_wp2_with fail
          go_meet
          case rel => exact ⟨_, P6, Lib.hid (ack_pl HPL.out _ _ _), Lib.hid (by rw [ackS_f]; show σ.b.length ≤ _; have := HLX.out; omega)⟩
        · skip
          go_wp2_with fail
          refine (pr_grow_s HX.out of).mono ?_
          rintro e w5 ⟨rfl, h⟩
          have P5 := Lib.hid h
          have f2 := h.blk.cell 2
          have f4 := h.blk.cell 4
          have fl := h.blk.lt
          simp only [List.getElem?_cons_zero, List.getElem?_cons_succ] at f2 f4
          clear h
          go_wp2_with fail
          refine (pr_grow_h P5.out of).mono ?_
          rintro e w6 ⟨rfl, h⟩
          have P6 := Lib.hid h
          clear h
          go_wp2_with fail
          go_meet
          case rel => exact ⟨_, P6, Lib.hid (grow_pl HPL.out _), Lib.hid (by show σ.b.length ≤ _; have := HLX.out; omega)⟩
        · skip
          by_cases h8 : (of : Int) % 8 = 0
          · obtain ⟨t1, ht1⟩ : ∃ t1 : Int, t1 = if resetB σ then 0 else (σ.top : Int) := ⟨_, rfl⟩
            have HT1 := Lib.hid ht1
            obtain ⟨β, hβ⟩ : ∃ β, β = !resetB σ := ⟨_, rfl⟩
            have HBW := Lib.hid hβ
            clear hβ ht1
            go_wp2_with fail
            refine (pr_reset_s HX.out _).mono ?_
            rw [← HT1.out, ← HBW.out]
            rintro e w5 ⟨rfl, h⟩
            have P5 := Lib.hid h
            clear h
            go_wp2_with fail
            refine (pr_reset_h P5.out HPL.out).mono ?_
            rw [← HT1.out, ← HBW.out]
            rintro e w6 ⟨rfl, h⟩
            have P6 := Lib.hid h
            clear h
            go_wp2_with fail
            go_meet
            case rel => exact ⟨_, P6, Lib.hid (by split; exact HPL.out; exact reset_pl HPL.out), Lib.hid (by split <;> (have := HLX.out; (try show σ.b.length ≤ _); omega))⟩
          · have h8' : ((of : Int) % 8 == 0) = false := by simp; omega
            go_wp2_with fail
            go_meet
            case rel => exact ⟨_, HX, HPL, Lib.hid (by have := HLX.out; omega)⟩
      case rest =>
      clear HX e0 e1 e2 e3 e4 el
      obtain ⟨σ', HX, HPL, HLN⟩ := hcut
      obtain ⟨sv, hsv⟩ : ∃ sv, stateV σ' = .string sv := by
        unfold stateV
        split
        · exact ⟨_, rfl⟩
        · split
          · exact ⟨_, rfl⟩
          · split
            · exact ⟨_, rfl⟩
            · split
              · exact ⟨_, rfl⟩
              · exact ⟨_, rfl⟩
      have HSV := Lib.hid hsv
      clear hsv
      go_wp2_with fail
      refine (pr_state_s HX.out).mono ?_
      rw [HSV.out]
      rintro e w5 ⟨rfl, h⟩
      have P5 := Lib.hid h
      clear h
      go_wp2_with fail
      refine (pr_state_h P5.out HPL.out).mono ?_
      rw [HSV.out]
      rintro e w6 ⟨rfl, h⟩
      have P6 := Lib.hid h
      clear h
      go_wp2_with fail
      go_roundw
      case rel => exact ⟨k + 1, σ', by omega, by go_num, Lib.hid P6.out.bare, HPL, HLN⟩
      case measure => simp [intOf]; omega
    · obtain rfl : k = l.length := by omega
      have HT := Lib.hid HJ.out.touch
      go_wp2_with fail
      go_ret
      exact ⟨rfl, HT.out⟩
end Go.Proofs.Ytmidlielcioinaa
