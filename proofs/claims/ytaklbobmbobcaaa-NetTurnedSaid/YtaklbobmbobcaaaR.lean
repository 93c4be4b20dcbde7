/- The walk of the statement on datagrams in any order. Conditions: the slices can be read. -/
import Derived.Test.YtaklbobmbobcaaaQ
import Derived.IntWalk
namespace Go.Proofs.Ytaklbobmbobcaaa
open Go.RowKit Go.Maps Go.WideMaps

theorem pick_lt (c : Prop) [Decidable c] (x n : Nat) (h : 0 < n) : (if c then x % n else 0) < n := by
  split
  · exact Nat.mod_lt _ h
  · exact h
theorem cell_keep {w wr : World} {a : Addr} {v : Value} (hb : Below w.heap.size w wr) (h : w.cell? a = some v) : wr.cell? a = some v := (Touch.of_below hb).cell h (by simp)
/-- Between two rounds: the net, the map and the counts. -/
def At3 (w wr : World) (q m n : Nat) (S : List UInt8) : Prop := ∃ f, NetC w wr q m n S f ∧ Counts S f
theorem At3.below {w wr : World} {q m n : Nat} {S : List UInt8} (h : At3 w wr q m n S) : Below w.heap.size w wr := let ⟨_, h1, _⟩ := h; h1.below

set_option maxRecDepth 100000 in
theorem turned_many (nn : Int) (a b : Option Addr) (p d : List UInt8) (c1 c2 : Nat) (w : World) (hl : 60 < p.length ∨ (p.length ≤ 60 ∧ 20 < d.length)) :
    Calls Try.prog 5 #[.int .u8 nn, .slice a p.length c1, .slice b d.length c2] w fun e w' => e = .returned (.bool true) ∧ Below w.heap.size w w' := by
  rcases hl with hl | ⟨hl, hl2⟩
  all_goals
    go_enter Try.func5, Try.ntmps5
    go_wp2_with fail
    refine (known_any _).mono ?_
    rintro e w1 ⟨rfl, hb⟩
    go_wp2_with fail
    go_ret
    exact ⟨rfl, hb.below (Nat.le_refl _) (by simp)⟩

set_option maxRecDepth 100000 in
set_option maxHeartbeats 4000000 in
theorem turned_walk (nn : Int) (a b : Option Addr) (p d : List UInt8) (c1 c2 : Nat) (w : World) (hn : 0 ≤ nn ∧ nn ≤ 255) (hp : Rd w 1 (.slice a p.length c1) p.length (cb p)) (hd : Rd w 1 (.slice b d.length c2) d.length (cb d)) (hpl : p.length ≤ 60) (hdl : d.length ≤ 20) :
    Calls Try.prog 5 #[.int .u8 nn, .slice a p.length c1, .slice b d.length c2] w fun e w' => e = .returned (.bool true) ∧ Below w.heap.size w w' := by
  have hmm := @run_makeMap Try.prog
  have hq : Int.tmod nn 20 = nn % 20 := Int.tmod_eq_emod_of_nonneg hn.1
  obtain ⟨mm, hmn⟩ : ∃ mm : Nat, nn % 20 = (mm : Int) := ⟨(nn % 20).toNat, by omega⟩
  have hm20 : mm < 20 := by omega
  have hq2 : Int.tmod nn 20 = (mm : Int) := hq.trans hmn
  have HP := Lib.hid hp
  have HD := Lib.hid hd
  clear hq hmn hp hd
  go_enter Try.func5, Try.ntmps5
  go_wp2_with fail
  refine (known_any _).mono ?_
  rintro e w1 ⟨rfl, hb⟩
  have T1 := Lib.hid hb
  clear hb
  go_wp2_with fail
  refine (newNet_any _).mono ?_
  rintro e w2 ⟨rfl, hN, hT⟩
  have hNC : NetC w (w2.alloc (.map #[] 0)) w1.heap.size w2.heap.size 0 [] (fun _ => 0) := by
    have h1 := T1.out.size
    have h2 := hT.size
    have h3 := hN.lt w1.heap.size (by simp)
    exact ⟨_, _, hN.keep ((Touch.refl [] _).alloc _), IsC.made _, fun g hg => by simp at hg; omega, by omega, by simp; omega, (T1.out.trans hT (by simp)).alloc _⟩
  have A2 := Lib.hid (show At3 w (w2.alloc (.map #[] 0)) w1.heap.size w2.heap.size 0 [] from ⟨_, hNC, Counts.nil⟩)
  clear hN hT hNC
  go_wp2_with fail
  generalize w2.alloc (.map #[] 0) = w3 at *
  generalize w1.heap.size = q at *
  generalize w2.heap.size = mp at *
  go_loopw [9] (fun i wr => ∃ j : Nat, j ≤ mm ∧ i = .int .i64 (j : Int) ∧ At3 w wr q mp j (upTo j)) (fun i _ => mm - (intOf i).toNat)
  case atStart => exact ⟨0, by omega, rfl, A2.out⟩
  case round =>
    obtain ⟨j, hj, rfl, f, hC, hF⟩ := hrel
    have HC := Lib.hid hC
    have HF := Lib.hid hF
    clear hC hF
    by_cases hlt : j < mm
    · have hj1 : (0 : Int) ≤ (j : Int) := by omega
      have hj2 : (j : Int) ≤ 255 := by omega
      have hnew : UInt8.ofNat j ∉ upTo j := upTo_new j (by omega)
      have hkb : keyB (UInt8.ofNat j) = .int .u8 (j : Int) := by unfold keyB; rw [ofNat_nat _ (by omega)]
      have hcb : cb [UInt8.ofNat j] = [.int .u8 (j : Int)] := by show [keyB _] = _; rw [hkb]
      have HNW := Lib.hid hnew
      have HKB := Lib.hid hkb
      have HCB := Lib.hid hcb
      clear hnew hkb hcb
      go_wp2_with fail
      refine (c_push HC.out (((Touch.refl [] _).alloc (.cells #[.int .u8 (j : Int)] 5)).alloc (.cells #[.slice (some ⟨wr.heap.size, 0, none⟩) 1 1] 26)) (UInt8.ofNat j) (u := .slice (some ⟨wr.heap.size, 0, none⟩) 1 1) (by rw [HCB.out]; exact (one_rd wr 5 _).touch ((Touch.refl [] _).alloc _) (by simp)) (by simp [own]) (rd_at (wr.alloc _) [.slice (some ⟨wr.heap.size, 0, none⟩) 1 1] (by simp) 26) (by simp [own]) (by rw [upTo_len]; omega)).mono ?_
      rintro e w4 ⟨rfl, hC4⟩
      have C4 := Lib.hid hC4
      clear hC4
      go_wp2_with (at_mapUpdate; refine wpList_store_C _ rfl (.tmp 43) (.tmp 45) (.const (.int .i64 1)) rfl mp j f rfl C4.out.count (by unfold maxLen; omega) (UInt8.ofNat j) 1 HKB.out.symm rfl (by decide) ?_; intro w5 k1 k2; have K1 := Lib.hid k1; have K2 := Lib.hid k2; clear k1 k2)
      go_roundw
      case rel => exact ⟨j + 1, by omega, by go_num, _, by rw [upTo_succ]; exact C4.out.stored K1.out K2.out, by rw [upTo_succ]; exact HF.out.first _ HNW.out⟩
      case measure => simp [intOf]; omega
    · obtain rfl : mm = j := by omega
      have A3 := Lib.hid (show At3 w wr q mp mm (upTo mm) from ⟨f, HC.out, HF.out⟩)
      clear HC HF
      go_wp2_with fail
      obtain ⟨wo, rfl⟩ : ∃ wo : World, wo = wr := ⟨_, rfl⟩
      go_loopw [11, 10] (fun i lf wr => ∃ (j : Nat) (S : List UInt8), j ≤ d.length ∧ i = .int .i64 (j : Int) ∧ lf = .int .i64 (S.length : Int) ∧ mm ≤ S.length ∧ (mm = 0 → S.length = 0) ∧ S.length ≤ mm + j ∧ (∀ k, k < mm → S.getD k 0 = UInt8.ofNat k) ∧ At3 w wr q mp (mm + j) S) (fun i _ _ => d.length - (intOf i).toNat)
      case atStart => exact ⟨0, upTo mm, by omega, rfl, by rw [upTo_len], by rw [upTo_len]; omega, fun h => by rw [upTo_len]; exact h, by rw [upTo_len]; omega, fun k hk => upTo_get mm k hk, A3.out⟩
      case round =>
        obtain ⟨j, S, hj, rfl, rfl, hS1, hS0, hS2, hget, f, hC, hF⟩ := hrel
        have HC := Lib.hid hC
        have HF := Lib.hid hF
        have HG := Lib.hid hget
        have HS0 := Lib.hid hS0
        clear hC hF hget hS0
        by_cases hgo : j < d.length ∧ 0 < mm
        · obtain ⟨hjd, hm0⟩ := hgo
          obtain ⟨xn, hx⟩ : ∃ xn : Nat, (d.getD j 0).toNat = xn := ⟨_, rfl⟩
          have hx256 : xn < 256 := by rw [← hx]; exact (d.getD j 0).toNat_lt
          rcases HD.out.cases with ⟨_, _, _, h0, _⟩ | ⟨g, o, cap', he, _, _, hcell⟩
          · omega
          simp at he
          obtain ⟨rfl, rfl⟩ := he
          have cw : w.cell? ⟨g, o + j, none⟩ = some (.int .u8 (xn : Int)) := by
            rw [hcell j (by omega), ← hx]
            simp [cb, hjd]
          have CW := Lib.hid cw
          have c3 := cell_keep HC.out.below cw
          clear hcell hx cw
          obtain ⟨k, hk⟩ : ∃ k : Nat, xn % mm = k := ⟨_, rfl⟩
          have hkm : k < mm := by rw [← hk]; exact Nat.mod_lt _ hm0
          have r1 : Int.tmod (xn : Int) (mm : Int) = (k : Int) := by rw [Int.tmod_eq_emod_of_nonneg (by omega), ← hk]; simp
          have r2 : (xn : Int) % (mm : Int) = (k : Int) := by rw [← hk]; simp
          have r3 : ((mm : Int) == 0) = false := by simp; omega
          have hk1 : (0 : Int) ≤ (k : Int) := by omega
          have hk2 : (k : Int) ≤ 255 := by omega
          have HKB := Lib.hid (show keyB (UInt8.ofNat k) = .int .u8 (k : Int) from by unfold keyB; rw [ofNat_nat _ (by omega)])
          clear hk
          go_wp2_with fail
          refine (c_double HC.out k (by omega) (by omega) (UInt8.ofNat k) (HG.out k hkm)).mono ?_
          rintro e w4 ⟨rfl, hC4⟩
          have C4 := Lib.hid hC4
          have hlk := hC4.count.look (UInt8.ofNat k)
          rw [HKB.out] at hlk
          have c4 := cell_keep hC4.below CW.out
          obtain ⟨fv, hfv⟩ : ∃ fv, f (UInt8.ofNat k) = fv := ⟨_, rfl⟩
          have hfl := HF.out.le (UInt8.ofNat k)
          rw [hfv] at hlk hfl
          have HFV := Lib.hid hfv
          clear hC4 hfv c3
          go_wp2_with (at_mapUpdate; refine wpList_store_C _ rfl (.tmp 71) (.tmp 78) (.tmp 80) rfl mp (mm + j) f rfl C4.out.count (by unfold maxLen; omega) (UInt8.ofNat k) (fv + 1) HKB.out.symm rfl (WalkArith.wf_i64 (by omega)) ?_; intro w5 k1 k2; have K1 := Lib.hid k1; have K2 := Lib.hid k2; clear k1 k2)
          go_roundw
          case rel =>
            refine ⟨j + 1, S ++ [UInt8.ofNat k], by omega, by go_num, by simp, by simp; omega, fun h => by omega, by simp; omega, fun k' hk' => ?_, _, C4.out.stored K1.out K2.out, ?_⟩
            · rw [← HG.out k' hk', List.getD_eq_getElem?_getD, List.getD_eq_getElem?_getD, List.getElem?_append_left (by omega)]
            · have := HF.out.more (UInt8.ofNat k)
              rw [HFV.out] at this
              exact this
          case measure => simp [intOf]; omega
        · have hend : d.length ≤ j ∨ (j < d.length ∧ S.length = 0) := by
            have := HS0.out
            omega
          obtain ⟨N, hN⟩ : ∃ N, mm + j = N := ⟨_, rfl⟩
          have AX := Lib.hid (show At3 w wr q mp N S from by rw [← hN]; exact ⟨f, HC.out, HF.out⟩)
          have hN40 : N ≤ 40 := by omega
          have hSN : S.length ≤ N := by omega
          clear HC HF HG hgo HS0 hN hS1 hS2
          have hgo2 : (decide (j < d.length) = false) ∨ (decide (j < d.length) = true ∧ decide (0 < S.length) = false) := by
            rcases hend with h | ⟨h1, h2⟩
            · exact .inl (decide_eq_false (by omega))
            · exact .inr ⟨decide_eq_true h1, decide_eq_false (by omega)⟩
          clear hend
          have HSN := Lib.hid hSN
          rcases hgo2 with hgo2 | ⟨hgo2, hgo3⟩
          all_goals
            go_wp2_with fail
            obtain ⟨wo2, rfl⟩ : ∃ wo : World, wo = wr := ⟨_, rfl⟩
            go_loopw [12, 10] (fun i lf wr => ∃ (j : Nat) (S : List UInt8), i = .int .i64 (j : Int) ∧ lf = .int .i64 (S.length : Int) ∧ j + S.length ≤ 40 ∧ At3 w wr q mp (N + j) S) (fun _ lf _ => (intOf lf).toNat)
            case atStart => exact ⟨0, S, rfl, rfl, by have := HSN.out; omega, AX.out⟩
            case round =>
              obtain ⟨j2, S2, rfl, rfl, hjs, f, hC, hF⟩ := hrel
              have HC := Lib.hid hC
              have HF := Lib.hid hF
              clear hC hF
              by_cases hgo4 : 0 < S2.length
              · obtain ⟨k, hk, hkl⟩ : ∃ k : Nat, (if j2 < p.length then (p.getD j2 0).toNat % S2.length else 0) = k ∧ k < S2.length := ⟨_, rfl, pick_lt _ _ _ hgo4⟩
                have HKK := Lib.hid hk
                have hlb : (S2.length : Int) ≤ 40 := by omega
                have hlb0 : ((S2.length : Int) == 0) = false := beq_eq_false_iff_ne.2 (by omega)
                have hjb : (j2 : Int) ≤ 40 := by omega
                clear hk
                go_upto_if 90 with fail
                go_cut [13] (fun s13 wx => wx = wr ∧ s13 = .int .i64 (k : Int))
                case first =>
                  have hkk := HKK.out
                  by_cases hjp : j2 < p.length
                  · rw [if_pos hjp] at hkk
                    obtain ⟨xn, hx⟩ : ∃ xn : Nat, (p.getD j2 0).toNat = xn := ⟨_, rfl⟩
                    have hx256 : xn < 256 := by rw [← hx]; exact (p.getD j2 0).toNat_lt
                    rw [hx] at hkk
                    rcases HP.out.cases with ⟨_, _, _, h0, _⟩ | ⟨g, o, cap', he, _, _, hcell⟩
                    · omega
                    simp at he
                    obtain ⟨rfl, rfl⟩ := he
                    have cw : w.cell? ⟨g, o + j2, none⟩ = some (.int .u8 (xn : Int)) := by
                      rw [hcell j2 (by omega), ← hx]
                      simp [cb, hjp]
                    have c3 := cell_keep HC.out.below cw
                    have r1 : Int.tmod (xn : Int) (S2.length : Int) = (k : Int) := by rw [Int.tmod_eq_emod_of_nonneg (by omega), ← hkk]; simp
                    have r2 : (xn : Int) % (S2.length : Int) = (k : Int) := by rw [← hkk]; simp
                    clear hcell hx cw hkk
                    go_wp2_with fail
                    go_meet
                    exact ⟨rfl, rfl⟩
                  · rw [if_neg hjp] at hkk
                    have hk0 : (0 : Int) = (k : Int) := by omega
                    have HK0 := Lib.hid hk0
                    clear hkk hk0
                    go_wp2_with fail
                    go_meet
                    exact ⟨rfl, by rw [← HK0.out]⟩
                case rest =>
                  obtain ⟨hwc, rfl⟩ := hcut
                  subst hwc
                  obtain ⟨c, hc⟩ : ∃ c, S2.getD k 0 = c := ⟨_, rfl⟩
                  have hless := HF.out.less k hkl c hc
                  go_wp2_with fail
                  refine (c_pull HC.out k hkl (by omega) c hc).mono ?_
                  rintro e w4 ⟨g, o, cap', rfl, c5, hgm, hg4, hC4⟩
                  have C4 := Lib.hid hC4
                  have hlk := hC4.count.look c
                  obtain ⟨fv, hfv⟩ : ∃ fv, f c = fv := ⟨_, rfl⟩
                  have hfl := HF.out.le c
                  rw [hfv] at hlk hfl hless
                  have HFV := Lib.hid hfv
                  obtain ⟨hl1, hl2⟩ := hless
                  have HL2 := Lib.hid hl2
                  have hkey : keyB c = .int .u8 (c.toNat : Int) := rfl
                  rw [hkey] at hlk c5
                  have HKY := Lib.hid hkey
                  have hlen : (S2.eraseIdx k).length = S2.length - 1 := List.length_eraseIdx_of_lt hkl
                  have HLN := Lib.hid hlen
                  clear hC4 hfv hc hl2 hkey hlen hgm
                  go_wp2_with (at_mapUpdate; refine wpList_store_C _ rfl (.tmp 119) (.tmp 122) (.tmp 124) rfl mp (N + j2) f rfl C4.out.count (by unfold maxLen; omega) c (fv - 1) rfl rfl (WalkArith.wf_i64 (by omega)) ?_; intro w5 k1 k2; have K1 := Lib.hid k1; have K2 := Lib.hid k2; clear k1 k2)
                  go_roundw
                  case rel => exact ⟨j2 + 1, S2.eraseIdx k, by go_num, by rw [HLN.out]; go_num, by rw [HLN.out]; omega, _, C4.out.stored K1.out K2.out, HL2.out⟩
                  case measure => simp [intOf]; omega
              · have hS2 : S2 = [] := List.eq_nil_of_length_eq_zero (by omega)
                subst hS2
                clear hgo4
                go_wp2_with fail
                refine (c_pull_none HC.out 0).mono ?_
                rintro e w5 ⟨rfl, rfl⟩
                go_wp2_with fail
                refine (c_len HC.out).mono ?_
                rintro e w5 ⟨rfl, rfl⟩
                go_wp2_with fail
                go_ret
                exact ⟨rfl, HC.out.below⟩
end Go.Proofs.Ytaklbobmbobcaaa
