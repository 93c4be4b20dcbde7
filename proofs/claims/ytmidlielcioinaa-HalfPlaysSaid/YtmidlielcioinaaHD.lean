/- The contracts of the document's State and Reset. Conditions: the half is in order. -/
import Derived.Test.YtmidlielcioinaaHB
namespace Go.Proofs.Ytmidlielcioinaa
open Go.RowKit

theorem Sl.byte {w : World} {a : Option Addr} {n c : Nat} {l : List Nat} (h : Sl w 5 1 (.slice a n c) n (bs l)) {k x : Nat} (hx : l[k]? = some x) :
    ∃ g o, a = Option.some ⟨g, o, none⟩ ∧ w.cell? ⟨g, o + k, none⟩ = some (.int .u8 (x : Int)) ∧ g < w.heap.size ∧ (∀ j, w.frozen? ⟨g, j, none⟩ = false) ∧ n ≤ c ∧ g ∈ own (.slice a n c) := by
  have hk : k < l.length := (List.getElem?_eq_some_iff.1 hx).1
  have hl : l.length = n := by have := h.1; rw [bs_len] at this; omega
  rcases h.cases with ⟨he, h0, _⟩ | ⟨g, off, cap, he, hnc, _, hg, hc, hf⟩
  · omega
  · simp at he
    obtain ⟨rfl, rfl⟩ := he
    refine ⟨g, off, rfl, ?_, hg (by omega), hf (by omega), hnc, by rw [own_some _ _ _ (by omega)]; simp⟩
    rw [hc k (by omega)]
    unfold bs
    rw [List.getElem?_map, hx]
    rfl
/-- All of the first k are acknowledged, and the end is. -/
def allP (η : Hlf) (k : Nat) : Bool := ((η.finS : Int) == 3) && (η.s.take k).all fun x => ((x : Int) == 3)
theorem allP_zero (η : Hlf) : allP η 0 = ((η.finS : Int) == 3) := by simp [allP]
theorem allP_succ (η : Hlf) (k x : Nat) (hx : η.s[k]? = some x) : allP η (k + 1) = (allP η k && ((x : Int) == 3)) := by
  unfold allP
  rw [List.take_add_one, hx, List.all_append, Bool.and_assoc]
  simp
theorem allP_full (η : Hlf) : allP η η.s.length = allH η := by
  unfold allP allH
  rw [List.take_length]

set_option maxHeartbeats 1000000 in
theorem hstate_any (w : World) (p : Nat) (F : List Nat) (η : Hlf) (h : IsHlf w p F η) : Calls Try.prog 27 #[.pointer (some ⟨p, 0, none⟩)] w fun e w' => e = .returned (stateH η) ∧ Touch [] w w' := by
  obtain ⟨ab, az, cb, cz, h1, h2, h3, hF, d1, d2, d3, hok⟩ := h
  have c2 := h1.cell 2
  have c4 := h1.cell 4
  have c5 := h1.cell 5
  have c6 := h1.cell 6
  have hl := h1.lt
  simp only [hcells, List.getElem?_cons_zero, List.getElem?_cons_succ] at c2 c4 c5 c6
  have H3 := Lib.hid h3
  have hl5 : η.s.length ≤ 50000 := by have := hok.s; have := hok.len; omega
  clear h1 h2 h3 hF d1 d2 d3 hok
  go_enter Try.func27, Try.ntmps27
  go_wp2_with fail
  go_loopw [4, 3] (fun i s3 wr => ∃ k : Nat, k ≤ η.s.length ∧ i = .int .i64 (k : Int) ∧ s3 = .bool (allP η k) ∧ wr = w) (fun i _ _ => η.s.length - (intOf i).toNat)
  case atStart => exact ⟨0, by omega, by simp, by rw [allP_zero], rfl⟩
  case round =>
    obtain ⟨k, hk, rfl, rfl, rfl⟩ := hrel
    by_cases hlt : k < η.s.length
    · have hlt' : (k : Int) < (η.s.length : Int) := by omega
      obtain ⟨x, hx⟩ : ∃ x, η.s[k]? = some x := ⟨_, List.getElem?_eq_getElem hlt⟩
      obtain ⟨g, o, rfl, hc, hg, _, hnc, _⟩ := H3.out.byte hx
      have HX := Lib.hid hx
      clear hx
      cases ha : allP η k with
      | true =>
        have HA := Lib.hid ha
        clear ha
        go_wp2_with fail
        go_roundw
        case rel => exact ⟨k + 1, by omega, by go_num, by rw [allP_succ η k x HX.out, HA.out]; simp, trivial⟩
        case measure => simp [intOf]; omega
      | false =>
        have HA := Lib.hid ha
        clear ha
        go_wp2_with fail
        go_roundw
        case rel => exact ⟨k + 1, by omega, by go_num, by rw [allP_succ η k x HX.out, HA.out]; simp, trivial⟩
        case measure => simp [intOf]; omega
    · obtain rfl : k = η.s.length := by omega
      rw [allP_full]
      have HV : Hid (stateH η = if η.gone then vReset else if !η.began then vReady else if allH η then vRecvd else if ((0 : Int) < (η.finS : Int)) then vSent else vSend) := Lib.hid rfl
      cases hg : η.gone with
      | true =>
        rw [hg] at HV c5
        clear hg
        go_wp2_with fail
        go_ret
        exact ⟨by rw [HV.out]; rfl, Touch.refl _ _⟩
      | false =>
        cases hb : η.began with
        | false =>
          rw [hg, hb] at HV
          rw [hg] at c5
          rw [hb] at c6
          clear hg hb
          go_wp2_with fail
          go_ret
          exact ⟨by rw [HV.out]; rfl, Touch.refl _ _⟩
        | true =>
          cases ha : allH η with
          | true =>
            rw [hg, hb, ha] at HV
            rw [hg] at c5
            rw [hb] at c6
            clear hg hb ha
            go_wp2_with fail
            go_ret
            exact ⟨by rw [HV.out]; rfl, Touch.refl _ _⟩
          | false =>
            rw [hg, hb, ha] at HV
            rw [hg] at c5
            rw [hb] at c6
            clear hg hb ha
            by_cases hf : (0 : Int) < (η.finS : Int)
            · rw [if_pos hf] at HV
              go_wp2_with fail
              go_ret
              exact ⟨by rw [HV.out]; rfl, Touch.refl _ _⟩
            · rw [if_neg hf] at HV
              go_wp2_with fail
              go_ret
              exact ⟨by rw [HV.out]; rfl, Touch.refl _ _⟩

/-- Behind the last of the first k that were sent. -/
def topP (s : List Nat) : Nat → Nat
  | 0 => 0
  | k + 1 => if 0 < s.getD k 0 then k + 1 else topP s k
theorem topP_yes (s : List Nat) (k x : Nat) (h : s.getD k 0 = x) (h0 : 0 < x) : topP s (k + 1) = k + 1 := by
  show (if 0 < s.getD k 0 then _ else _) = _
  rw [h, if_pos h0]
theorem topP_no (s : List Nat) (k x : Nat) (h : s.getD k 0 = x) (h0 : ¬ 0 < x) : topP s (k + 1) = topP s k := by
  show (if 0 < s.getD k 0 then _ else _) = _
  rw [h, if_neg h0]
theorem topP_st {σ : Snd} (h : Pl σ) : ∀ k, k ≤ σ.b.length → topP (stL σ) k = min k σ.top
  | 0, _ => by simp [topP]
  | k + 1, hk => by
    have ih := topP_st h k (by omega)
    have hc := code0 σ k
    have hto := h.ok.top
    unfold topP
    rw [List.getD_eq_getElem?_getD, stL_get, if_pos (show k < σ.b.length by omega), Option.getD_some]
    split
    · omega
    · rw [ih]; omega
theorem topP_le (s : List Nat) : ∀ k, topP s k ≤ k
  | 0 => Nat.le_refl _
  | k + 1 => by unfold topP; have := topP_le s k; split <;> omega
def resetHB (η : Hlf) : Bool := η.gone || (η.began && allH η)
theorem resetHB_eq {σ : Snd} (h : Pl σ) : resetHB (halfOf σ) = resetB σ := by
  unfold resetHB resetB
  rw [all_eq h]
  show (σ.reset || (decide (0 < σ.top ∨ 0 < σ.fin) && doneB σ)) = _
  congr 1
  cases hd : doneB σ with
  | false => simp
  | true =>
    have : σ.fin ≠ 0 := by
      intro e
      unfold doneB at hd
      rw [e] at hd
      simp at hd
    rw [decide_eq_true (.inr (by omega))]
    rfl
set_option maxHeartbeats 1000000 in
theorem hreset_any (w : World) (p : Nat) (F : List Nat) (η : Hlf) (h : IsHlf w p F η) :
    Calls Try.prog 26 #[.pointer (some ⟨p, 0, none⟩)] w fun e w' => e = .returned (.tuple #[.int .u64 (if resetHB η then 0 else (topP η.s η.s.length : Int)), .bool (!resetHB η)]) ∧ StepH w p F (if resetHB η then η else { η with gone := true }) w' := by
  have HS := Lib.hid (hstate_any w p F η h)
  have HH := Lib.hid h
  obtain ⟨ab, az, cb, cz, h1, h2, h3, hF, d1, d2, d3, hok⟩ := h
  have HF := Lib.hid hF
  have H1 := Lib.hid h1
  have c5 := h1.cell 5
  have hl := h1.lt
  simp only [hcells, List.getElem?_cons_zero, List.getElem?_cons_succ] at c5
  have hl5 : η.s.length ≤ 50000 := by have := hok.s; have := hok.len; omega
  have HO : Hid (Hlf.Ok { η with gone := true }) := Lib.hid ⟨hok.s, hok.len, hok.max, hok.fin, hok.lt⟩
  have HQ := Lib.hid (And.intro h2 (And.intro h3 (And.intro d1 (And.intro d2 d3))))
  clear h1 h2 h3 hF d1 d2 d3 hok
  cases hr : η.gone with
  | true =>
    have HV : Hid (resetHB η = true) := Lib.hid (by unfold resetHB; rw [hr]; rfl)
    rw [hr] at c5
    clear hr
    rw [HV.out]
    go_enter Try.func26, Try.ntmps26
    go_wp2_with fail
    refine bodyPost_ret (v := .tuple #[.int .u64 0, .bool false]) (by simp [results, Try.results26, go_sem]) rfl ?_
    exact ⟨by simp, StepH.same HH.out (Touch.refl _ _)⟩
  | false =>
    rw [hr] at c5
    cases hd : (η.began && allH η) with
    | true =>
      have HV : Hid (resetHB η = true) := Lib.hid (by unfold resetHB; rw [hd]; simp)
      have HSV : Hid (stateH η = vRecvd) := Lib.hid (by
        simp at hd
        unfold stateH; rw [hr, hd.1, hd.2]; rfl)
      clear hr hd
      rw [HV.out]
      go_enter Try.func26, Try.ntmps26
      go_wp2_with fail
      refine HS.out.mono ?_
      rw [HSV.out]
      rintro e w2 ⟨rfl, k⟩
      have HT := Lib.hid k
      clear k
      unfold vRecvd
      go_wp2_with fail
      refine bodyPost_ret (v := .tuple #[.int .u64 0, .bool false]) (by simp [results, Try.results26, go_sem]) rfl ?_
      exact ⟨by simp, StepH.same HH.out HT.out⟩
    | false =>
      have HV : Hid (resetHB η = false) := Lib.hid (by unfold resetHB; rw [hr, hd]; rfl)
      have HSV : Hid (stateH η = vReady ∨ stateH η = vSent ∨ stateH η = vSend) := Lib.hid (by
        unfold stateH
        rw [hr, if_neg (by decide)]
        cases hb : η.began with
        | false => exact .inl rfl
        | true =>
          rw [hb] at hd
          simp at hd
          rw [hd, if_neg (by decide), if_neg (by decide)]
          split
          · exact .inr (.inl rfl)
          · exact .inr (.inr rfl))
      clear hr hd
      rw [HV.out]
      go_enter Try.func26, Try.ntmps26
      go_upto_region 1 with fail
      go_cut [14] (fun s14 wx => s14 = .bool false ∧ Hid (Touch [] w wx))
      case first =>
        go_wp2_with fail
        refine HS.out.mono ?_
        rcases HSV.out with e1 | e1 | e1
        · rw [e1]
          clear e1
          rintro e w2 ⟨rfl, hT⟩
          have HT := Lib.hid hT
          clear hT
          unfold vReady
          go_wp2_with fail
          go_meet
          case rel => exact ⟨rfl, HT⟩
        · rw [e1]
          clear e1
          rintro e w2 ⟨rfl, hT⟩
          have HT := Lib.hid hT
          clear hT
          unfold vSent
          go_wp2_with fail
          go_meet
          case rel => exact ⟨rfl, HT⟩
        · rw [e1]
          clear e1
          rintro e w2 ⟨rfl, hT⟩
          have HT := Lib.hid hT
          clear hT
          unfold vSend
          go_wp2_with fail
          go_meet
          case rel => exact ⟨rfl, HT⟩
      case rest =>
      obtain ⟨rfl, HT⟩ := hcut
      have HB2 := Lib.hid (H1.out.touch HT.out (by simp))
      have f5 := HB2.out.frozen 5
      have b5 := HB2.out.cell 5
      have bl := HB2.out.lt
      simp only [hcells, List.getElem?_cons_zero, List.getElem?_cons_succ] at b5
      clear c5 hl
      go_upto_region 4 with fail
      obtain ⟨W, hW⟩ : ∃ W, W = wc.setCell ⟨p, 5, none⟩ (.bool true) := ⟨_, rfl⟩
      rw [← hW]
      have HTW : Hid (Touch [p] wc W) := Lib.hid (by rw [hW]; exact (Touch.refl [p] wc).set (.inl (by simp)) _)
      have HBW : Hid (IsBlk W p (hcells { η with gone := true } ab az cb cz) 68) := Lib.hid (by rw [hW]; exact HB2.out.set 5 _)
      have HSW : Hid (Sl W 5 1 (.slice az η.s.length cz) η.s.length (bs η.s)) := Lib.hid ((HQ.out.2.1.touch HT.out (by simp)).touch HTW.out (fun g hg hm => HQ.out.2.2.2.1 (by simp at hm; rw [← hm]; exact hg)))
      clear hW f5 b5 bl
      have d2 := HBW.out.cell 2
      have dl := HBW.out.lt
      simp only [hcells, List.getElem?_cons_zero, List.getElem?_cons_succ] at d2
      go_wp2_with fail
      go_loopw [5, 4] (fun i s4 wr => ∃ k : Nat, k ≤ η.s.length ∧ i = .int .i64 (k : Int) ∧ s4 = .int .i64 (topP η.s k : Int) ∧ wr = W) (fun i _ _ => η.s.length - (intOf i).toNat)
      case atStart => exact ⟨0, by omega, by simp, rfl, rfl⟩
      case round =>
        obtain ⟨k, hk, rfl, rfl, rfl⟩ := hrel
        by_cases hlt : k < η.s.length
        · have hlt' : (k : Int) < (η.s.length : Int) := by omega
          obtain ⟨x, hx⟩ : ∃ x, η.s[k]? = some x := ⟨_, List.getElem?_eq_getElem hlt⟩
          obtain ⟨g, o, rfl, hc, hg, _, hnc, _⟩ := HSW.out.byte hx
          have HX := Lib.hid (show η.s.getD k 0 = x by rw [List.getD_eq_getElem?_getD, hx]; rfl)
          clear hx
          by_cases h0 : (0 : Int) < (x : Int)
          · go_wp2_with fail
            go_roundw
            case rel => exact ⟨k + 1, by omega, by go_num, by rw [topP_yes _ _ _ HX.out (by omega)]; go_num, trivial⟩
            case measure => simp [intOf]; omega
          · go_wp2_with fail
            go_roundw
            case rel => exact ⟨k + 1, by omega, by go_num, by rw [topP_no _ _ _ HX.out (by omega)], trivial⟩
            case measure => simp [intOf]; omega
        · obtain rfl : k = η.s.length := by omega
          have htl := topP_le η.s η.s.length
          have hwt : IntKind.u64.wrap (topP η.s η.s.length : Int) = (topP η.s η.s.length : Int) := IntWalk.u64_in _ (by omega)
          go_wp2_with fail
          refine bodyPost_ret (v := .tuple #[.int .u64 (topP η.s η.s.length : Int), .bool true]) (by simp [results, Try.results26, go_sem]) rfl ?_
          obtain ⟨h2, h3, d1, d2, d3⟩ := HQ.out
          refine ⟨by simp, ?_⟩
          rw [HF.out]
          exact IsHlf.head (η := η) (θ := { η with gone := true }) h2 HSW.out d1 d2 d3 HBW.out ((HT.out.mono (by simp)).trans HTW.out (fun g hg => .inl (by simp at hg; simp [hg]))) rfl rfl HO.out
end Go.Proofs.Ytmidlielcioinaa
