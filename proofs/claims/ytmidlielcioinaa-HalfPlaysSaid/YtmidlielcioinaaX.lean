/- The walk of HalfWhole. Conditions: none. -/
import Derived.Test.YtmidlielcioinaaW
namespace Go.Proofs.Ytmidlielcioinaa
open Go.RowKit

open Classical in
/-- What seen holds. -/
noncomputable def seenV (N : Nat) (σ : Snd) : List Value := (List.range N).map fun x => .bool (decide (inR x σ.acked))
theorem info4 : (Try.prog.info? 4).map (fun i => (i.zero, i.size, i.bytes)) = some (some (.bool false), 1, 1) := by kernel_rfl
theorem make_false (n : Nat) (h : n ≤ 1099511627776) (w : World) : (Instr.makeSlice 23 (.int .i64 (n : Int)) (.int .i64 (n : Int))).run Try.prog w = .ok (.slice (some ⟨w.heap.size, 0, none⟩) n n) (w.alloc (.cells (madeCells #[.bool false] n) 4)) :=
  run_make_row' 23 4 (.bool false) 1 Try.underlying23 info4 rfl .i64 .i64 n (by omega) (by omega) w
theorem seen_new (n : Nat) (σ : Snd) (h : σ.acked = []) : (madeCells #[.bool false] n).toList = seenV n σ := by
  rw [toList_madeCells_one]
  unfold seenV
  rw [h]
  apply List.ext_getElem?
  intro i
  by_cases hi : i < n
  · simp [hi, inR]
  · simp [hi]

open Classical in
/-- .. and the first j from off on are marked. -/
noncomputable def seenP (N : Nat) (σ : Snd) (off j : Nat) : List Value := (List.range N).map fun x => .bool (decide (inR x σ.acked ∨ (off ≤ x ∧ x < off + j)))
theorem seenP_len (N : Nat) (σ : Snd) (off j : Nat) : (seenP N σ off j).length = N := by simp [seenP]
theorem seenP_zero (N : Nat) (σ : Snd) (off : Nat) : seenP N σ off 0 = seenV N σ := by
  unfold seenP seenV
  apply List.map_congr_left
  intro x _
  congr 1
  apply decide_eq_decide.2
  constructor
  · rintro (h | h)
    · exact h
    · omega
  · exact .inl
theorem seenP_succ (N : Nat) (σ : Snd) (off j : Nat) (h : off + j < N) : seenP N σ off (j + 1) = (seenP N σ off j).set (off + j) (.bool true) := by
  apply List.ext_getElem?
  intro i
  rw [List.getElem?_set, seenP_len]
  unfold seenP
  by_cases hi : off + j = i
  · subst hi
    rw [if_pos rfl, if_pos h]
    simp [h]
  · rw [if_neg hi]
    by_cases hN : i < N
    · simp only [List.getElem?_map, List.getElem?_range hN, Option.map_some]
      congr 2
      apply decide_eq_decide.2
      constructor
      · rintro (h | h)
        · exact .inl h
        · exact .inr (by omega)
      · rintro (h | h)
        · exact .inl h
        · exact .inr (by omega)
    · rw [List.getElem?_eq_none (by simp; omega), List.getElem?_eq_none (by simp; omega)]
theorem seenP_full {N : Nat} {b : List Nat} {σ τ : Snd} {off len : Nat} {f : Bool} (h : Wh b σ) (hn : Nx σ off len f τ) : seenP N σ off len = seenV N (ackS τ off (len : Int) f) := by
  unfold seenP seenV
  apply List.map_congr_left
  intro x _
  congr 1
  exact decide_eq_decide.2 (ack_acked h hn x).symm

theorem conv_w (w : World) (x : Value) (n : Nat) (b : List Nat) (hb : b.length = n) (hx : Rd w 1 x n (bs b)) (m : Nat) : (convert 22 9 x).run Try.prog (w.drewN m) = .ok (.string (strOfNums (b.map fun k : Nat => (k : Int)))) (w.drewN m) :=
  conv_str _ _ _ _ hb (hx.touch ((Touch.refl [] w).drewN m) (by simp))
/-- What text[off:off+len] may be. -/
theorem conv_part (w : World) (g o n0 c0 : Nat) (ds : List Nat) (h : Rd w 1 (.slice (some ⟨g, o, none⟩) n0 c0) n0 (bs ds)) (hn0 : n0 ≤ c0) (hl : ds.length = n0) (off len : Nat) (hf : off + len ≤ n0) (m : Nat) :
    (c0 = off → (convert 22 9 (.slice (some ⟨g, o, none⟩) len 0)).run Try.prog (w.drewN m) = .ok (.string (strOfNums (((ds.drop off).take len).map fun k : Nat => (k : Int)))) (w.drewN m)) ∧
    (c0 ≠ off → (convert 22 9 (.slice (some ⟨g, o + off, none⟩) len (c0 - off))).run Try.prog (w.drewN m) = .ok (.string (strOfNums (((ds.drop off).take len).map fun k : Nat => (k : Int)))) (w.drewN m)) := by
  have hlen : ((ds.drop off).take len).length = len := by simp; omega
  refine ⟨fun e => ?_, fun e => ?_⟩
  · obtain rfl : len = 0 := by omega
    exact conv_w w _ 0 _ hlen ⟨by simp [bs], .inl ⟨_, _, rfl, rfl⟩⟩ m
  · refine conv_w w _ len _ hlen ⟨by simp [bs]; omega, ?_⟩ m
    by_cases h0 : len = 0
    · subst h0; exact .inl ⟨_, _, rfl, rfl⟩
    · rcases h.2 with ⟨a, c, e1, e2⟩ | ⟨b, o2, cap, e1, e2, e3, e4⟩
      · omega
      · simp at e1
        obtain ⟨⟨rfl, rfl⟩, rfl⟩ := e1
        refine .inr ⟨g, o + off, c0 - off, rfl, by omega, fun _ => e3 (by omega), fun j hj => ?_⟩
        have := e4 (off + j) (by omega)
        rw [Nat.add_assoc, this]
        unfold bs
        rw [List.map_take, List.map_drop, List.getElem?_take, if_pos (by omega), List.getElem?_drop]

set_option maxHeartbeats 4000000 in
set_option maxRecDepth 100000 in
theorem whole_walk (w : World) (a0 a1 a2 : Option Addr) (n0 n1 n2 c0 c1 c2 : Nat) (ds ts : List Nat) (ls : List Bool) (h0 : Rd w 1 (.slice a0 n0 c0) n0 (bs ds)) (e0 : ds.length = n0) (h1 : Rd w 1 (.slice a1 n1 c1) n1 (bs ts)) (e1 : ts.length = n1) (b1 : ∀ t ∈ ts, t < 256)
    (h2 : Rd w 1 (.slice a2 n2 c2) n2 (ls.map Value.bool)) (e2 : ls.length = n2) :
    Calls Try.prog 3 #[.slice a0 n0 c0, .slice a1 n1 c1, .slice a2 n2 c2] w fun e w' => e = .returned (.bool true) ∧ Touch [] w w' := by
  have H0 := Lib.hid h0
  have H1 := Lib.hid h1
  have H2 := Lib.hid h2
  have E0 := Lib.hid e0
  have E1 := Lib.hid e1
  have E2 := Lib.hid e2
  have B1 := Lib.hid b1
  clear h0 h1 h2 e0 e1 e2 b1
  by_cases hbig : 200 < n0 ∨ 100 < n1 ∨ n2 < n1
  · rcases Nat.lt_or_ge 200 n0 with g0 | g0
    · have g0' : (200 : Int) < (n0 : Int) := by omega
      clear hbig g0
      go_enter Try.func3, Try.ntmps3
      go_wp2_with fail
      refine (known_any _).mono ?_
      rintro e w1 ⟨rfl, hT⟩
      have T1 := Lib.hid hT
      clear hT
      go_wp2_with fail
      go_ret
      exact ⟨rfl, T1.out⟩
    · have g0' : ¬ (200 : Int) < (n0 : Int) := by omega
      rcases Nat.lt_or_ge 100 n1 with g1 | g1
      · have g1' : (100 : Int) < (n1 : Int) := by omega
        clear hbig g0 g1
        go_enter Try.func3, Try.ntmps3
        go_wp2_with fail
        refine (known_any _).mono ?_
        rintro e w1 ⟨rfl, hT⟩
        have T1 := Lib.hid hT
        clear hT
        go_wp2_with fail
        go_ret
        exact ⟨rfl, T1.out⟩
      · have g1' : ¬ (100 : Int) < (n1 : Int) := by omega
        have g2' : (n2 : Int) < (n1 : Int) := by omega
        clear hbig g0 g1
        go_enter Try.func3, Try.ntmps3
        go_wp2_with fail
        refine (known_any _).mono ?_
        rintro e w1 ⟨rfl, hT⟩
        have T1 := Lib.hid hT
        clear hT
        go_wp2_with fail
        go_ret
        exact ⟨rfl, T1.out⟩
  · have g0 : n0 ≤ 200 := by omega
    have g1 : n1 ≤ 100 := by omega
    have g2 : n1 ≤ n2 := by omega
    have hmk := make_false n0 (by omega)
    clear hbig
    go_enter Try.func3, Try.ntmps3
    go_wp2_with fail
    refine (known_any _).mono ?_
    rintro e w1 ⟨rfl, hT⟩
    have T1 := Lib.hid hT
    clear hT
    go_wp2_with fail
    refine (show Calls Try.prog 9 #[.int .u64 1000] w1 _ from at_new w w1 1000 T1.out).mono ?_
    rintro e w2 ⟨p, rfl, h⟩
    have A2 := Lib.hid h
    clear h
    go_wp2_with fail
    refine (at_write A2.out _ n0 ds true (H0.out.touch A2.out.touch (by simp)) E0.out (by show 0 + n0 ≤ 50000; omega)).mono ?_
    have HWH := Lib.hid (wh_new ds (by rw [E0.out]; exact g0))
    have HAK : Hid ((writeS (snd0 1000) ds true).acked = []) := Lib.hid rfl
    obtain ⟨σ, hσ⟩ : ∃ σ, σ = writeS (snd0 1000) ds true := ⟨_, rfl⟩
    rw [← hσ] at HWH HAK ⊢
    have HF0 : Hid (σ.fin = 0) := Lib.hid (by rw [hσ]; rfl)
    clear hσ
    rintro e w3 ⟨rfl, h⟩
    have A3 := Lib.hid h
    clear h
    have A4 : Hid (At2 w (w3.alloc (.cells (madeCells #[.bool false] n0) 4)) p σ [] w3.heap.size (seenV n0 σ)) := Lib.hid (by
      have hs := A3.out.touch.size
      have hB := IsBlk.new w3 (madeCells #[.bool false] n0).toList 4
      rw [seen_new n0 σ HAK.out, ← seen_new n0 σ HAK.out] at hB
      simp only [Array.toArray_toList] at hB
      refine At2.of A3.out (fun F hF => ⟨?_, fun hm => by have := hF.lt _ hm; omega⟩) ((Touch.refl _ _).alloc _) hs
      rw [← seen_new n0 σ HAK.out]
      exact hB)
    obtain ⟨g, hg⟩ : ∃ g, g = w3.heap.size := ⟨_, rfl⟩
    obtain ⟨w4, hw4⟩ : ∃ w4, w4 = w3.alloc (.cells (madeCells #[.bool false] n0) 4) := ⟨_, rfl⟩
    rw [← hg, ← hw4] at A4
    go_upto_block 0 with (fail)
    rw [← hg, ← hw4]
    clear hg hw4
    go_wp2_with fail
    go_loopw [10, 9] (fun i s9 wr => ∃ (k : Nat) (f : Bool) (σ : Snd), i = .int .i64 (k : Int) ∧ s9 = .bool f ∧ Hid (f = decide (σ.fin = 3)) ∧ Hid (Wh ds σ) ∧ Hid (At2 w wr p σ [] g (seenV n0 σ)) ∧ Hid (un ds σ + (k - n1) ≤ n0 + 1)) (fun i _ _ => n1 + n0 + 2 - (intOf i).toNat)
    case atStart => exact ⟨0, false, σ, by simp, rfl, Lib.hid (by rw [HF0.out]; rfl), HWH, A4, Lib.hid (by have := un_le ds σ; rw [E0.out] at this; omega)⟩
    case round =>
      obtain ⟨k, f, ρ, rfl, rfl, HF, HP, HJ, HU⟩ := hrel
      by_cases hlt : k < n1 + n0 + 2
      · have hlt' : (k : Int) < (n1 : Int) + (n0 : Int) + 2 := by omega
        go_upto_if 56 with fail
        go_cut [11, 12] from 43 to 129 (fun s11 s12 wx => ∃ (n : Nat) (aw : Bool), s11 = .int .i64 (n : Int) ∧ s12 = .bool aw ∧ 0 < n ∧ n ≤ 1000 ∧ Hid (aw = true → k < n1) ∧ Hid (At2 w wx p ρ [] g (seenV n0 ρ)))
        case first =>
          by_cases hk : k < n1
          · have hk' : (k : Int) < (n1 : Int) := by omega
            rcases (H1.out.touch HJ.out.touch (by simp)).cases with ⟨_, _, _, h0, _⟩ | ⟨g1, o1, cp1, he1, hnc1, hl1, hc1⟩
            · omega
            rcases (H2.out.touch HJ.out.touch (by simp)).cases with ⟨_, _, _, h0, _⟩ | ⟨g2, o2, cp2, he2, hnc2, hl2, hc2⟩
            · omega
            simp at he1 he2
            obtain ⟨rfl, rfl⟩ := he1
            obtain ⟨rfl, rfl⟩ := he2
            have hx1 := hc1 k (by omega)
            have hx2 := hc2 k (by omega)
            obtain ⟨t, ht⟩ : ∃ t, ts[k]? = some t := ⟨_, List.getElem?_eq_getElem (by rw [E1.out]; exact hk)⟩
            obtain ⟨q, hq⟩ : ∃ q, ls[k]? = some q := ⟨_, List.getElem?_eq_getElem (by rw [E2.out]; omega)⟩
            have ht1 := B1.out t (List.mem_of_getElem? ht)
            rw [show (bs ts)[k]? = some (.int .u8 (t : Int)) from by unfold bs; rw [List.getElem?_map, ht]; rfl] at hx1
            rw [show (ls.map Value.bool)[k]? = some (.bool q) from by rw [List.getElem?_map, hq]; rfl] at hx2
            have hl1' := hl1 (by omega)
            have hl2' := hl2 (by omega)
            have hk2 : (k : Int) < (n2 : Int) := by omega
            have ht0 : (0 : Int) ≤ (t : Int) := by omega
            clear hc1 hc2 ht hq hl1 hl2
            go_wp2_with fail
            go_quiet (fail)
            go_wp2_with fail
            go_meet
            case rel => exact ⟨t % 20 + 1, q, by simp, rfl, by omega, by omega, Lib.hid fun _ => hk, Lib.hid (HJ.out.keep ((Touch.refl _ _).drewN _))⟩
          · have hk' : ¬ (k : Int) < (n1 : Int) := by omega
            go_wp2_with fail
            go_meet
            case rel => exact ⟨1000, false, by simp, rfl, by omega, by omega, Lib.hid (fun h => by cases h), HJ⟩
        case rest =>
        clear HJ
        obtain ⟨n, aw, rfl, rfl, hn1, hn2, HAW, HJ⟩ := hcut
        go_wp2_with fail
        refine (at2_next HJ.out n (by omega)).mono ?_
        rw [show ((n : Int)).toNat = n from rfl]
        rcases next_wh HP.out (by rw [E0.out]; exact g0) n hn1 with ⟨q1, q2, q3, q4⟩ | ⟨off, len, fn, τ, q1, q2⟩
        · have HQ := Lib.hid q1
          obtain ⟨q5, q6⟩ := wh_done HP.out q2 q3 q4
          rw [E0.out] at q5
          have HQ5 := Lib.hid q5
          have HQ6 := Lib.hid q6
          obtain rfl : f = true := by rw [HF.out]; exact decide_eq_true q4
          clear q1 q2 q3 q4 q5 q6 HF
          rw [HQ.out]
          rintro e w5 ⟨v, rfl, _, h⟩
          have A5 := Lib.hid h.drop
          clear h HJ
          go_wp2_with fail
          go_loopw [18] (fun i wr => ∃ j : Nat, j ≤ n0 ∧ i = .int .i64 (j : Int) ∧ wr = w5) (fun i _ => n0 - (intOf i).toNat)
          case atStart => exact ⟨0, by omega, by simp, rfl⟩
          case round =>
            obtain ⟨j, hj, rfl, rfl⟩ := hrel
            by_cases hjl : j < n0
            · have hjl' : (j : Int) < (n0 : Int) := by omega
              have hcell := A5.out.blk.cell j
              have hget : (seenV n0 ρ)[j]? = some (.bool true) := by
                unfold seenV
                simp [hjl, HQ5.out j hjl]
              rw [hget] at hcell
              have hblk := A5.out.blk.lt
              clear hget
              go_wp2_with fail
              go_roundw
              case rel => exact ⟨j + 1, by omega, by go_num, trivial⟩
              case measure => simp [intOf]; omega
            · obtain rfl : j = n0 := by omega
              go_wp2_with fail
              refine (at2_state A5.out).mono ?_
              rw [HQ6.out]
              rintro e w6 ⟨rfl, h⟩
              have HT6 := Lib.hid h.touch
              clear h
              unfold vRecvd
              go_wp2_with fail
              go_ret
              exact ⟨rfl, HT6.out⟩
        · have HQ := Lib.hid q1
          have HN := Lib.hid q2
          have hfit := q2.fit
          have htop := q2.ok.top
          rw [q2.b, HP.out.b, E0.out] at htop
          have hln : (((ds.drop off).take len)).length = len := by simp [E0.out]; omega
          have hlen : off + len ≤ n0 := by omega
          clear q1 q2 hfit htop
          rw [HQ.out]
          rintro e w5 ⟨v, rfl, hv, h⟩
          have A5 := Lib.hid h
          have hv2 := hv.form
          simp only [hln] at hv2
          obtain ⟨va, vc, rfl⟩ := hv2
          have kS := conv_w _ _ len _ hln (by simpa only [hln] using hv)
          clear h HJ hv
          have hgd : ¬ ((n0 : Int) < (off : Int) + (len : Int)) := by omega
          have u1 : IntKind.u64.wrap (len : Int) = (len : Int) := IntWalk.u64_in _ (by omega)
          have u2 : IntKind.u64.wrap ((off : Int) + (len : Int)) = (off : Int) + (len : Int) := IntWalk.u64_in _ (by omega)
          have u3 : IntKind.u64.wrap (n0 : Int) = (n0 : Int) := IntWalk.u64_in _ (by omega)
          have A6 := Lib.hid A5.out.drop
          go_upto_region 17 with fail
          go_cut [100] from 78 to 129 (fun s100 wx => s100 = .bool false ∧ Hid (At2 w wx p τ [] g (seenV n0 ρ)))
          case first =>
            clear A5
            have q1 : (off : Int) ≤ (off : Int) + (len : Int) := by omega
            rcases (H0.out.touch A6.out.touch (by simp)).cases with ⟨_, _, he0, h0, _⟩ | ⟨g3, o3, cp3, he3, hnc3, hl3, hc3⟩
            · obtain rfl : n0 = 0 := h0
              obtain rfl : off = 0 := by omega
              obtain rfl : len = 0 := by omega
              have kS0 : ∀ (a : Option Addr) (c m : Nat), (convert 22 9 (.slice a 0 c)).run Try.prog (w5.drewN m) = .ok (.string (strOfNums (((ds.drop 0).take 0).map fun k : Nat => (k : Int)))) (w5.drewN m) := fun a c m => conv_w w5 _ 0 _ (by simp) ⟨by simp [bs], .inl ⟨_, _, rfl, rfl⟩⟩ m
              clear he0 kS
              cases a0 with
              | none =>
                go_quiet (fail)
                go_wp2_with fail
                go_meet
                case rel => exact ⟨by simp, Lib.hid (A6.out.keep ((Touch.refl _ _).drewN _))⟩
              | some a0 =>
                go_quiet (fail)
                go_wp2_with fail
                go_meet
                case rel => exact ⟨by simp, Lib.hid (A6.out.keep ((Touch.refl _ _).drewN _))⟩
            · simp at he3
              obtain ⟨rfl, rfl⟩ := he3
              have q2 : (off : Int) + (len : Int) ≤ (c0 : Int) := by omega
              have kP := conv_part w5 g3 o3 n0 c0 ds (H0.out.touch A6.out.touch (by simp)) hnc3 E0.out off len hlen
              clear hc3 hl3
              by_cases hca : c0 = off
              · have kP1 := fun m => (kP m).1 hca
                clear kP
                obtain rfl : len = 0 := by omega
                subst hca
                have w0 : IntKind.u64.wrap 0 = 0 := by decide
                have w1 : IntKind.u64.wrap (c0 : Int) = (c0 : Int) := IntWalk.u64_in _ (by omega)
                have w2 : (c0 : Int) ≤ (n0 : Int) := by omega
                clear q2
                have w3 : c0 ≤ n0 := by omega
                go_quiet (fail)
                go_wp2_with fail
                go_meet
                case rel => exact ⟨by simp; try omega, Lib.hid (A6.out.keep ((Touch.refl _ _).drewN _))⟩
              · have kP1 := fun m => (kP m).2 hca
                have hln2 : ((off : Int) + (len : Int)).toNat - off = len := by omega
                clear kP
                go_quiet (fail)
                go_wp2_with fail
                go_meet
                case rel => exact ⟨by simp; omega, Lib.hid (A6.out.keep ((Touch.refl _ _).drewN _))⟩
          case rest =>
          clear A5 A6
          obtain ⟨rfl, A5⟩ := hcut
          cases aw with
          | true =>
            have hk : k < n1 := HAW.out rfl
            go_wp2_with fail
            refine (at2_lost A5.out off len fn (by omega) (by omega)).mono ?_
            rintro e w6 ⟨rfl, h⟩
            have A6 := Lib.hid h
            clear h
            go_wp2_with fail
            go_roundw
            case rel => exact ⟨k + 1, f, lostS τ off (len : Int) fn, by go_num, rfl, Lib.hid (by
                rw [lost_fin HN.out, HF.out]
                have h3 := HN.out.not3
                cases fn with
                | true => simp [h3 rfl]
                | false => rfl), Lib.hid (lost_wh HP.out HN.out), Lib.hid (by unfold seenV; rw [lost_acked HN.out]; exact A6.out), Lib.hid (by rw [un_lost HN.out]; have := HU.out; omega)⟩
            case measure => simp [intOf]; omega
          | false =>
            go_wp2_with fail
            go_loopw [17] (fun i wr => ∃ j : Nat, j ≤ len ∧ i = .int .i64 (j : Int) ∧ Hid (At2 w wr p τ [] g (seenP n0 ρ off j))) (fun i _ => len - (intOf i).toNat)
            case atStart => exact ⟨0, by omega, by simp, Lib.hid (by rw [seenP_zero]; exact A5.out)⟩
            case round =>
              obtain ⟨j, hj, rfl, HI⟩ := hrel
              by_cases hjl : j < len
              · have hjl' : (j : Int) < (len : Int) := by omega
                have hb1 := HI.out.blk.lt
                have hb2 := HI.out.blk.frozen (off + j)
                have hb3 := HI.out.blk.cell (off + j)
                have hix : (off : Int) + (j : Int) < (n0 : Int) := by omega
                have hwo : IntKind.i64.wrap (off : Int) = (off : Int) := IntWalk.i64_in _ (by omega)
                obtain ⟨vb, hvb⟩ : ∃ vb, (seenP n0 ρ off j)[off + j]? = some vb := ⟨_, List.getElem?_eq_getElem (by rw [seenP_len]; omega)⟩
                rw [hvb] at hb3
                clear hvb
                go_wp2_with fail
                go_roundw
                case rel => exact ⟨j + 1, by omega, by go_num, Lib.hid (by rw [seenP_succ _ _ _ _ (by omega)]; exact HI.out.put ((Touch.refl [g] _).set (.inl (by simp)) _) (HI.out.blk.set (off + j) _))⟩
                case measure => simp [intOf]; omega
              · obtain rfl : j = len := by omega
                cases fn with
                | true =>
                  cases f with
                  | true =>
                    go_wp2_with fail
                    refine (at2_acked HI.out off j true (by omega) (by omega)).mono ?_
                    rintro e w6 ⟨rfl, h⟩
                    have A6 := Lib.hid h
                    clear h
                    go_wp2_with fail
                    go_roundw
                    case rel => exact ⟨k + 1, true, ackS τ off (j : Int) true, by go_num, rfl, Lib.hid (by
                        rw [ack_fin HN.out]
                        simp), Lib.hid (ack_wh HP.out HN.out), Lib.hid (by rw [← seenP_full HP.out HN.out]; exact A6.out), Lib.hid (by have := un_ack HP.out HN.out; have := HU.out; omega)⟩
                    case measure => simp [intOf]; omega
                  | false =>
                    go_wp2_with fail
                    refine (at2_acked HI.out off j true (by omega) (by omega)).mono ?_
                    rintro e w6 ⟨rfl, h⟩
                    have A6 := Lib.hid h
                    clear h
                    go_wp2_with fail
                    go_roundw
                    case rel => exact ⟨k + 1, true, ackS τ off (j : Int) true, by go_num, rfl, Lib.hid (by
                        rw [ack_fin HN.out]
                        simp), Lib.hid (ack_wh HP.out HN.out), Lib.hid (by rw [← seenP_full HP.out HN.out]; exact A6.out), Lib.hid (by have := un_ack HP.out HN.out; have := HU.out; omega)⟩
                    case measure => simp [intOf]; omega
                | false =>
                  cases f with
                  | true =>
                    go_wp2_with fail
                    refine (at2_acked HI.out off j false (by omega) (by omega)).mono ?_
                    rintro e w6 ⟨rfl, h⟩
                    have A6 := Lib.hid h
                    clear h
                    go_wp2_with fail
                    go_roundw
                    case rel => exact ⟨k + 1, true, ackS τ off (j : Int) false, by go_num, rfl, Lib.hid (by
                        rw [ack_fin HN.out]
                        simpa using HF.out), Lib.hid (ack_wh HP.out HN.out), Lib.hid (by rw [← seenP_full HP.out HN.out]; exact A6.out), Lib.hid (by have := un_ack HP.out HN.out; have := HU.out; omega)⟩
                    case measure => simp [intOf]; omega
                  | false =>
                    go_wp2_with fail
                    refine (at2_acked HI.out off j false (by omega) (by omega)).mono ?_
                    rintro e w6 ⟨rfl, h⟩
                    have A6 := Lib.hid h
                    clear h
                    go_wp2_with fail
                    go_roundw
                    case rel => exact ⟨k + 1, false, ackS τ off (j : Int) false, by go_num, rfl, Lib.hid (by
                        rw [ack_fin HN.out]
                        simpa using HF.out), Lib.hid (ack_wh HP.out HN.out), Lib.hid (by rw [← seenP_full HP.out HN.out]; exact A6.out), Lib.hid (by have := un_ack HP.out HN.out; have := HU.out; omega)⟩
                    case measure => simp [intOf]; omega
      · exact absurd HU.out (by omega)
end Go.Proofs.Ytmidlielcioinaa
