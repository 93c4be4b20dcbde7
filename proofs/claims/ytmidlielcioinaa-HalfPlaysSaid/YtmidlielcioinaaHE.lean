/- The contracts of the document's mark, Lost and Acked. Conditions: the half is in order. -/
import Derived.Test.YtmidlielcioinaaHD
namespace Go.Proofs.Ytmidlielcioinaa
open Go.RowKit

theorem mark_ok {η : Hlf} (h : η.Ok) (off : Nat) (n : Int) (fin lost : Bool) : (markH η off n fin lost).Ok := by
  refine ⟨by show (mkL _ _ _ _ _).length = _; rw [mkL_len]; exact h.s, h.len, h.max, ?_, fun x hx => ?_⟩
  · show markF η.finS fin lost ≤ 3
    have := h.fin
    unfold markF
    split <;> (try split) <;> (try split) <;> omega
  · have hx : x ∈ mkL η.s off n lost η.s.length := hx
    obtain ⟨i, hi⟩ := List.mem_iff_getElem?.1 hx
    rw [mkL_get] at hi
    cases hs : η.s[i]? with
    | none => rw [hs] at hi; cases hi
    | some y =>
      rw [hs] at hi
      have hy := h.lt y (List.mem_of_getElem? hs)
      simp only [Option.map_some, Option.some.injEq] at hi
      subst hi
      unfold mk1
      split <;> (try split) <;> (try split) <;> (try split) <;> omega
theorem bs_set (l : List Nat) (k x : Nat) : (bs l).set k (.int .u8 (x : Int)) = bs (l.set k x) := by
  unfold bs
  rw [List.map_set]
theorem Sl.set_byte {w : World} {g o n c : Nat} {l : List Nat} (h : Sl w 5 1 (.slice (some ⟨g, o, none⟩) n c) n (bs l)) (k x : Nat) : Sl (w.setCell ⟨g, o + k, none⟩ (.int .u8 (x : Int))) 5 1 (.slice (some ⟨g, o, none⟩) n c) n (bs (l.set k x)) := by
  rw [← bs_set]
  exact h.set k _

set_option maxHeartbeats 2000000 in
theorem mark_loop (w : World) (p : Nat) (F : List Nat) (η : Hlf) (off : Nat) (n : Int) (fin lost : Bool) (h : IsHlf w p F η) (hn : n ≤ 9223372036854775807) (ho : off < 18446744073709551616) :
    Calls Try.prog 38 #[.pointer (some ⟨p, 0, none⟩), .int .u64 (off : Int), .int .i64 n, .bool fin, .bool lost] w fun e w' => e = .returned (.tuple #[]) ∧ StepH w p F (markH η off n fin lost) w' := by
  have HO := Lib.hid (mark_ok h.ok off n fin lost)
  obtain ⟨ab, az, cb, cz, h1, h2, h3, hF, d1, d2, d3, hok⟩ := h
  have HF := Lib.hid hF
  have H1 := Lib.hid h1
  have HQ := Lib.hid (And.intro h2 (And.intro h3 (And.intro d1 (And.intro d2 d3))))
  have HSB := Lib.hid hok.s
  have hl5 : η.b.length ≤ 50000 := hok.len
  clear h1 h2 h3 hF d1 d2 d3 hok
  obtain ⟨N, hN⟩ : ∃ N, N = n.toNat := ⟨_, rfl⟩
  have HN := Lib.hid hN
  have hmx : max n 0 = (N : Int) := by omega
  have hNb : N < 9223372036854775808 := by omega
  have hwN : IntKind.u64.wrap (N : Int) = (N : Int) := IntWalk.u64_in _ (by omega)
  clear hN
  go_enter Try.func38, Try.ntmps38
  go_upto_block 0 with fail
  go_cut [] (fun wx => Hid (Touch (own (.slice az η.s.length cz)) w wx) ∧ Hid (Sl wx 5 1 (.slice az η.s.length cz) η.s.length (bs (mkL η.s off n lost η.s.length))))
  case first =>
    go_wp2_with fail
    go_loopw [10] (fun i wr => ∃ k : Nat, k ≤ η.b.length ∧ i = .int .i64 (k : Int) ∧ Hid (Touch (own (.slice az η.s.length cz)) w wr) ∧ Hid (Sl wr 5 1 (.slice az η.s.length cz) η.s.length (bs (mkL η.s off n lost k)))) (fun i _ => η.b.length - (intOf i).toNat)
    case atStart => exact ⟨0, by omega, by simp, Lib.hid (Touch.refl _ _), Lib.hid (by rw [mkL_zero]; exact HQ.out.2.1)⟩
    case round =>
      obtain ⟨k, hk, rfl, HT, HS⟩ := hrel
      have HB := Lib.hid (H1.out.touch HT.out HQ.out.2.2.2.1)
      have b1 := HB.out.cell 1
      have bl := HB.out.lt
      simp only [hcells, List.getElem?_cons_zero, List.getElem?_cons_succ] at b1
      by_cases hlt : k < η.b.length
      · have hlt' : (k : Int) < (η.b.length : Int) := by omega
        have hwk : IntKind.u64.wrap (k : Int) = (k : Int) := IntWalk.u64_in _ (by omega)
        obtain ⟨x, hx⟩ : ∃ x, η.s[k]? = some x := ⟨_, List.getElem?_eq_getElem (by rw [HSB.out]; exact hlt)⟩
        have HX := Lib.hid hx
        by_cases hA : (k : Int) < (off : Int)
        · have HK : Hid (mk1 off n lost x k = x) := Lib.hid (if_pos (.inl (by omega)))
          clear hx
          go_wp2_with fail
          go_roundw
          case rel => exact ⟨k + 1, by omega, by go_num, HT, Lib.hid (by rw [mkL_same off n lost HX.out HK.out]; exact HS.out)⟩
          case measure => simp [intOf]; omega
        have hws : IntKind.u64.wrap ((k : Int) - (off : Int)) = (k : Int) - (off : Int) := IntWalk.u64_in _ (by omega)
        by_cases hB : (N : Int) ≤ (k : Int) - (off : Int)
        · have HK : Hid (mk1 off n lost x k = x) := Lib.hid (if_pos (.inr (.inl (by have := HN.out; omega))))
          clear hx
          go_wp2_with fail
          go_roundw
          case rel => exact ⟨k + 1, by omega, by go_num, HT, Lib.hid (by rw [mkL_same off n lost HX.out HK.out]; exact HS.out)⟩
          case measure => simp [intOf]; omega
        have hx2 := mkL_at off n lost hx
        obtain ⟨g, o, rfl, hc, hg, hf, hnc, hgo⟩ := HS.out.byte hx2
        have b2 := HB.out.cell 2
        simp only [hcells, List.getElem?_cons_zero, List.getElem?_cons_succ] at b2
        have hls : (k : Int) < (η.s.length : Int) := by rw [HSB.out]; omega
        have f1 := hf (o + k)
        have HNB : Hid (¬ N ≤ k - off) := Lib.hid (by omega)
        clear hx hx2 hf
        by_cases hC : x = 0
        · subst hC
          have HK : Hid (mk1 off n lost 0 k = 0) := Lib.hid (if_pos (.inr (.inr rfl)))
          go_wp2_with fail
          go_roundw
          case rel => exact ⟨k + 1, by omega, by go_num, HT, Lib.hid (by rw [mkL_same off n lost HX.out HK.out]; exact HS.out)⟩
          case measure => simp [intOf]; omega
        have hC1 : ((x : Int) == 0) = false := by simp; omega
        have HC : Hid (mk1 off n lost x k = if lost then (if x = 3 then 3 else 2) else 3) := Lib.hid (if_neg (by have := HN.out; have := HNB.out; omega))
        cases lost with
        | true =>
          by_cases hD : x = 3
          · subst hD
            have HK : Hid (mk1 off n true 3 k = 3) := Lib.hid HC.out
            clear HC
            go_wp2_with fail
            go_roundw
            case rel => exact ⟨k + 1, by omega, by go_num, HT, Lib.hid (by rw [mkL_same off n true HX.out HK.out]; exact HS.out)⟩
            case measure => simp [intOf]; omega
          · have hD1 : ((x : Int) != 3) = true := by simp; omega
            have HK : Hid (mk1 off n true x k = 2) := Lib.hid (by rw [HC.out, if_pos rfl, if_neg hD])
            clear HC
            go_wp2_with fail
            go_roundw
            case rel => exact ⟨k + 1, by omega, by go_num, Lib.hid (HT.out.set (.inl hgo) _), Lib.hid (by rw [mkL_step off n _ HX.out, HK.out]; exact HS.out.set_byte k 2)⟩
            case measure => simp [intOf]; omega
        | false =>
            have HK : Hid (mk1 off n false x k = 3) := Lib.hid HC.out
            clear HC
            go_wp2_with fail
            go_roundw
            case rel => exact ⟨k + 1, by omega, by go_num, Lib.hid (HT.out.set (.inl hgo) _), Lib.hid (by rw [mkL_step off n _ HX.out, HK.out]; exact HS.out.set_byte k 3)⟩
            case measure => simp [intOf]; omega
      · obtain rfl : k = η.b.length := by omega
        go_wp2_with fail
        go_meet
        case rel => exact ⟨HT, Lib.hid (by have h := HS.out; rw [← HSB.out] at h; exact h)⟩
  case rest =>
  obtain ⟨HT, HS⟩ := hcut
  have HB := Lib.hid (H1.out.touch HT.out HQ.out.2.2.2.1)
  have b4 := HB.out.cell 4
  have f4 := HB.out.frozen 4
  have bl := HB.out.lt
  simp only [hcells, List.getElem?_cons_zero, List.getElem?_cons_succ] at b4
  have HE0 : Hid (markF η.finS fin lost = η.finS → StepH w p F (markH η off n fin lost) wc) := Lib.hid (fun e => by
    obtain ⟨h2, h3, d1, d2, d3⟩ := HQ.out
    rw [HF.out]
    refine IsHlf.head (η := η) h2 ?_ d1 d2 d3 ?_ (HT.out.mono (fun g hg => .inl (by simp [hg]))) rfl (mkL_len _ _ _ _ _) HO.out
    · show Sl wc 5 1 (.slice az (mkL η.s off n lost η.s.length).length cz) (mkL η.s off n lost η.s.length).length _
      rw [mkL_len]
      exact HS.out
    · show IsBlk wc p [_, _, .slice az (mkL η.s off n lost η.s.length).length cz, _, .int .u8 (markF η.finS fin lost : Int), _, _] 68
      rw [mkL_len, e]
      exact HB.out)
  have HE1 : Hid (∀ m, markF η.finS fin lost = m → StepH w p F (markH η off n fin lost) (wc.setCell ⟨p, 4, none⟩ (.int .u8 (m : Int)))) := Lib.hid (fun m e => by
    obtain ⟨h2, h3, d1, d2, d3⟩ := HQ.out
    have hTp : Touch [p] wc (wc.setCell ⟨p, 4, none⟩ (.int .u8 (m : Int))) := (Touch.refl [p] wc).set (.inl (by simp)) _
    rw [HF.out]
    refine IsHlf.head (η := η) h2 ?_ d1 d2 d3 ?_ ((HT.out.mono (fun g hg => .inl (by simp [hg]))).trans hTp (fun g hg => .inl (by simp at hg; simp [hg]))) rfl (mkL_len _ _ _ _ _) HO.out
    · show Sl _ 5 1 (.slice az (mkL η.s off n lost η.s.length).length cz) (mkL η.s off n lost η.s.length).length _
      rw [mkL_len]
      exact HS.out.touch hTp (fun g hg hm => d2 (by simp at hm; rw [← hm]; exact hg))
    · show IsBlk _ p [_, _, .slice az (mkL η.s off n lost η.s.length).length cz, _, .int .u8 (markF η.finS fin lost : Int), _, _] 68
      rw [mkL_len, e]
      exact HB.out.set 4 _)
  clear hwN hmx
  cases fin with
  | false =>
    go_wp2_with fail
    go_end0
    exact ⟨rfl, HE0.out (by simp [markF])⟩
  | true =>
    by_cases h0 : (0 : Int) < (η.finS : Int)
    · have h0' : 0 < η.finS := by omega
      cases lost with
      | true =>
        by_cases h3 : η.finS = 3
        · have h3' : ((η.finS : Int) != 3) = false := by rw [h3]; rfl
          have HM : Hid (markF η.finS true true = η.finS) := Lib.hid (by unfold markF; rw [if_pos ⟨rfl, h0'⟩, if_pos rfl, if_pos h3, h3])
          clear h3
          go_wp2_with fail
          go_end0
          exact ⟨rfl, HE0.out HM.out⟩
        · have h3' : ((η.finS : Int) != 3) = true := by simp; omega
          have HM : Hid (markF η.finS true true = 2) := Lib.hid (by unfold markF; rw [if_pos ⟨rfl, h0'⟩, if_pos rfl, if_neg h3])
          clear h3
          go_wp2_with fail
          go_end0
          exact ⟨rfl, HE1.out 2 HM.out⟩
      | false =>
        have HM : Hid (markF η.finS true false = 3) := Lib.hid (by unfold markF; rw [if_pos ⟨rfl, h0'⟩, if_neg (by decide)])
        go_wp2_with fail
        go_end0
        exact ⟨rfl, HE1.out 3 HM.out⟩
    · have HM : Hid (markF η.finS true lost = η.finS) := Lib.hid (by unfold markF; rw [if_neg (by omega)])
      go_wp2_with fail
      go_end0
      exact ⟨rfl, HE0.out HM.out⟩

theorem hlost_any (w : World) (p : Nat) (F : List Nat) (η : Hlf) (off : Nat) (n : Int) (fin : Bool) (h : IsHlf w p F η) (hn : n ≤ 9223372036854775807) (ho : off < 18446744073709551616) :
    Calls Try.prog 23 #[.pointer (some ⟨p, 0, none⟩), .int .u64 (off : Int), .int .i64 n, .bool fin] w fun e w' => e = .returned (.tuple #[]) ∧ StepH w p F (markH η off n fin true) w' := by
  go_enter Try.func23, Try.ntmps23
  go_wp2_with fail
  refine (mark_loop w p F η off n fin true h hn ho).mono ?_
  rintro e w' ⟨rfl, k⟩
  have K := Lib.hid k
  clear k
  go_wp2_with fail
  go_end0
  exact ⟨rfl, K.out⟩
theorem hacked_any (w : World) (p : Nat) (F : List Nat) (η : Hlf) (off : Nat) (n : Int) (fin : Bool) (h : IsHlf w p F η) (hn : n ≤ 9223372036854775807) (ho : off < 18446744073709551616) :
    Calls Try.prog 24 #[.pointer (some ⟨p, 0, none⟩), .int .u64 (off : Int), .int .i64 n, .bool fin] w fun e w' => e = .returned (.tuple #[]) ∧ StepH w p F (markH η off n fin false) w' := by
  go_enter Try.func24, Try.ntmps24
  go_wp2_with fail
  refine (mark_loop w p F η off n fin false h hn ho).mono ?_
  rintro e w' ⟨rfl, k⟩
  have K := Lib.hid k
  clear k
  go_wp2_with fail
  go_end0
  exact ⟨rfl, K.out⟩
end Go.Proofs.Ytmidlielcioinaa
