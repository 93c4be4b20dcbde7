/- The contracts of the document's in, was, sample. Conditions: the ledger is in order; the sample is small. -/
import Derived.Test.YthnokfchebmjiaaRb
namespace Go.Proofs.Ythnokfchebmjiaa
open Go.RowKit

set_option maxHeartbeats 1000000 in
theorem inR_any (w : World) (v : Value) (n : Nat) (L : List Rng) (hv : Rd w 2 v L.length (cr L)) (hn : L.length ≤ 100000) :
    Calls Try.prog 30 #[v, .int .u64 (n : Int)] w fun e w' => e = .returned (.bool (hasB n L)) ∧ Touch [] w w' := by
  obtain ⟨a, c, rfl⟩ := hv.form
  have HX := Lib.hid hv
  clear hv
  go_enter Try.func30, Try.ntmps30
  go_wp2_with fail
  go_loopw [5] (fun i wr => ∃ k : Nat, k ≤ L.length ∧ i = .int .i64 (k : Int) ∧ Hid (hasB n (L.take k) = false) ∧ Hid (Touch [] w wr)) (fun i _ => L.length - (intOf i).toNat)
  case atStart => exact ⟨0, by omega, rfl, Lib.hid rfl, Lib.hid (Touch.refl _ _)⟩
  case round =>
    obtain ⟨k, hk, rfl, HF, HT⟩ := hrel
    by_cases hlt : k < L.length
    · have hlt' : (k : Int) < (L.length : Int) := by omega
      obtain ⟨x, hx⟩ : ∃ x, L[k]? = some x := ⟨_, List.getElem?_eq_getElem hlt⟩
      obtain ⟨g, o, rfl⟩ := HX.out.some (by omega)
      obtain ⟨c1, c2, hg⟩ := (HX.out.touch HT.out (by simp)).two rfl k x hx
      have hs := hasB_take n L k x hx HF.out
      have ho := hasB_of_take n L (k + 1)
      obtain ⟨x1, x2⟩ := x
      simp only at c1 c2 hs
      have HS := Lib.hid hs
      have HO := Lib.hid ho
      clear hx hs ho
      by_cases h1 : (x1 : Int) ≤ (n : Int)
      · by_cases h2 : (n : Int) ≤ (x2 : Int)
        · have HY : Hid (hasB n L = true) := Lib.hid (HO.out (by rw [HS.out]; simp; omega))
          go_wp2_with fail
          go_ret
          exact ⟨by rw [HY.out]; rfl, HT.out⟩
        · have HY : Hid (hasB n (L.take (k + 1)) = false) := Lib.hid (by rw [HS.out]; simp; omega)
          go_wp2_with fail
          go_roundw
          case rel => exact ⟨k + 1, by omega, by go_num, HY, HT⟩
          case measure => simp [intOf]; omega
      · have HY : Hid (hasB n (L.take (k + 1)) = false) := Lib.hid (by rw [HS.out]; simp; omega)
        go_wp2_with fail
        go_roundw
        case rel => exact ⟨k + 1, by omega, by go_num, HY, HT⟩
        case measure => simp [intOf]; omega
    · obtain rfl : k = L.length := by omega
      have HY : Hid (hasB n L = false) := Lib.hid (by have := HF.out; rwa [List.take_length] at this)
      go_wp2_with fail
      go_ret
      exact ⟨by rw [HY.out]; rfl, HT.out⟩
/-- How many were sent within a range. -/
def wasN (r1 r2 : Nat) (l : List Pkt) : Nat := (l.filter fun s => decide (r1 ≤ s.pn) && decide (s.pn ≤ r2)).length
theorem wasN_take (r1 r2 : Nat) (l : List Pkt) (k : Nat) (s : Pkt) (hs : l[k]? = some s) : wasN r1 r2 (l.take (k + 1)) = wasN r1 r2 (l.take k) + (if r1 ≤ s.pn ∧ s.pn ≤ r2 then 1 else 0) := by
  unfold wasN
  rw [List.take_add_one, hs, List.filter_append, List.length_append]
  congr 1
  by_cases h : r1 ≤ s.pn ∧ s.pn ≤ r2
  · rw [if_pos h]; simp [h.1, h.2]
  · rw [if_neg h]
    have : (decide (r1 ≤ s.pn) && decide (s.pn ≤ r2)) = false := by simp; omega
    simp [this]
theorem wasN_le (r1 r2 : Nat) (l : List Pkt) : wasN r1 r2 l ≤ l.length := by unfold wasN; exact List.length_filter_le _ _
set_option maxHeartbeats 1000000 in
theorem was_any (w : World) (p : Nat) (F : List Nat) (ρ : RL) (r1 r2 : Nat) (h : IsR w p F ρ) : Calls Try.prog 29 #[.pointer (some ⟨p, 0, none⟩), .agg #[.int .u64 (r1 : Int), .int .u64 (r2 : Int)]] w fun e w' => e = .returned (.int .u64 (wasN r1 r2 ρ.sent : Int)) ∧ Touch [] w w' := by
  have HH := Lib.hid h
  have hfew := h.ok.few
  clear h
  go_enter Try.func29, Try.ntmps29
  go_wp2_with fail
  obtain ⟨W, hW⟩ : ∃ W, W = w.alloc (.cells #[.int .u64 (r1 : Int), .int .u64 (r2 : Int)] 35) := ⟨_, rfl⟩
  obtain ⟨b, hb⟩ : ∃ b, b = w.heap.size := ⟨_, rfl⟩
  have HB : Hid (IsBlk W b [.int .u64 (r1 : Int), .int .u64 (r2 : Int)] 35) := Lib.hid (by rw [hW, hb]; exact IsBlk.new w _ _)
  have HT0 : Hid (Touch [] w W) := Lib.hid (by rw [hW]; exact (Touch.refl _ _).alloc _)
  rw [← hW, ← hb]
  clear hW hb
  go_loopw [5, 6] (fun s5 i wr => ∃ k : Nat, k ≤ ρ.sent.length ∧ s5 = .int .u64 (wasN r1 r2 (ρ.sent.take k) : Int) ∧ i = .int .i64 (k : Int) ∧ Hid (Touch [] W wr)) (fun _ i _ => ρ.sent.length - (intOf i).toNat)
  case atStart => exact ⟨0, by omega, rfl, rfl, Lib.hid (Touch.refl _ _)⟩
  case round =>
    obtain ⟨k, hk, rfl, rfl, HT⟩ := hrel
    have HTT := Lib.hid (HT0.out.trans HT.out (by simp))
    obtain ⟨aS, cS, aO, cO, h1, h2, h3, _, _, _, _, hok⟩ := HH.out.touch HTT.out (by simp)
    have hbk := HB.out.touch HT.out (by simp)
    have b0 := hbk.cell 0
    have b1 := hbk.cell 1
    have bl := hbk.lt
    have c0 := h1.cell 0
    have hl := h1.lt
    simp only [rcells, List.getElem?_cons_zero, List.getElem?_cons_succ] at c0 b0 b1
    by_cases hlt : k < ρ.sent.length
    · have hlt' : (k : Int) < (ρ.sent.length : Int) := by omega
      obtain ⟨s, hsk⟩ : ∃ s, ρ.sent[k]? = some s := ⟨_, List.getElem?_eq_getElem hlt⟩
      obtain ⟨g2, o2, rfl, hg2, d0, d1, d2, d3⟩ := h2.pkt rfl hsk
      have HW := Lib.hid (wasN_take r1 r2 ρ.sent k s hsk)
      have hle := wasN_le r1 r2 (ρ.sent.take k)
      rw [List.length_take] at hle
      generalize wasN r1 r2 (ρ.sent.take k) = q at HW hle ⊢
      clear h1 h2 h3 hok hsk hbk
      by_cases i1 : (r1 : Int) ≤ (s.pn : Int)
      · have q1 : decide (r1 ≤ s.pn) = true := decide_eq_true (by omega)
        by_cases i2 : (s.pn : Int) ≤ (r2 : Int)
        · have q2 : decide (s.pn ≤ r2) = true := decide_eq_true (by omega)
          have HW2 : Hid (wasN r1 r2 (ρ.sent.take (k + 1)) = q + 1) := Lib.hid (by rw [HW.out, if_pos ⟨by omega, by omega⟩])
          go_wp2_with fail
          go_quiet (fail)
          go_wp2_with fail
          go_roundw
          case rel => exact ⟨k + 1, by omega, by rw [HW2.out]; go_num, by go_num, Lib.hid (HT.out.drewN _)⟩
          case measure => simp [intOf]; omega
        · have q2 : decide (s.pn ≤ r2) = false := decide_eq_false (by omega)
          have HW2 : Hid (wasN r1 r2 (ρ.sent.take (k + 1)) = q) := Lib.hid (by rw [HW.out, if_neg (by omega)]; rfl)
          go_wp2_with fail
          go_quiet (fail)
          go_wp2_with fail
          go_roundw
          case rel => exact ⟨k + 1, by omega, by rw [HW2.out], by go_num, Lib.hid (HT.out.drewN _)⟩
          case measure => simp [intOf]; omega
      · have q1 : decide (r1 ≤ s.pn) = false := decide_eq_false (by omega)
        have HW2 : Hid (wasN r1 r2 (ρ.sent.take (k + 1)) = q) := Lib.hid (by rw [HW.out, if_neg (by omega)]; rfl)
        go_wp2_with fail
        go_quiet (fail)
        go_wp2_with fail
        go_roundw
        case rel => exact ⟨k + 1, by omega, by rw [HW2.out], by go_num, Lib.hid (HT.out.drewN _)⟩
        case measure => simp [intOf]; omega
    · obtain rfl : k = ρ.sent.length := by omega
      rw [List.take_length]
      clear h1 h2 h3 hok hbk
      go_wp2_with fail
      go_ret
      exact ⟨rfl, HTT.out⟩
/-- A sample is taken. -/
def sampR (ρ : RL) (n delay : Nat) : RL :=
  if ρ.samp then { ρ with latest := n, least := min ρ.least n, varied := (3 * ρ.varied + (max ρ.smooth (adj (min ρ.least n) n delay) - min ρ.smooth (adj (min ρ.least n) n delay))) / 4, smooth := (7 * ρ.smooth + adj (min ρ.least n) n delay) / 8 }
  else { ρ with latest := n, samp := true, smooth := n, varied := n / 2, least := n }
theorem sampR_ok {ρ : RL} (h : ρ.Ok) {n delay : Nat} (hn : n ≤ 1099511627776) : (sampR ρ n delay).Ok := by
  have ht := h.times
  have ha := adj_le (min ρ.least n) n delay
  unfold sampR
  split
  · exact ⟨h.ln, h.few, h.top, ⟨by show (7 * ρ.smooth + _) / 8 ≤ _; omega, by show (3 * ρ.varied + _) / 4 ≤ _; omega, by show min ρ.least n ≤ _; omega, hn⟩, h.each⟩
  · exact ⟨h.ln, h.few, h.top, ⟨hn, by show n / 2 ≤ _; omega, hn, hn⟩, h.each⟩
/-- Only the head's own cells are turned. -/
theorem IsR.head {w w' : World} {p : Nat} {F : List Nat} {ρ τ : RL} (h : IsR w p F ρ) (hB : ∀ aS cS aO cO, IsBlk w p (rcells ρ aS cS aO cO) 68 → IsBlk w' p (rcells τ aS cS aO cO) 68) (hT : Touch [p] w w') (e1 : τ.sent = ρ.sent) (e2 : τ.opn = ρ.opn) (hok : τ.Ok) : IsR w' p F τ := by
  obtain ⟨aS, cS, aO, cO, h1, h2, h3, hF, d1, d2, d3, _⟩ := h
  refine ⟨aS, cS, aO, cO, hB _ _ _ _ h1, ?_, ?_, ?_, ?_, ?_, ?_, hok⟩
  · rw [e1]; exact h2.touch hT (fun g hg hm => d1 (by simp at hm; rw [← hm]; exact hg))
  · rw [e1, e2]; exact h3.touch hT (fun g hg hm => d2 (by simp at hm; rw [← hm]; exact hg))
  · rw [e1]; exact hF
  · rw [e1]; exact d1
  · rw [e1]; exact d2
  · rw [e1]; exact d3

set_option maxHeartbeats 4000000 in
set_option maxRecDepth 100000 in
theorem sampleR_any (w : World) (p : Nat) (F : List Nat) (ρ : RL) (now at_ delay : Nat) (h : IsR w p F ρ) (hn : now ≤ 1099511627776) (hd : delay < 18446744073709551616) (ha : at_ < 18446744073709551616) :
    Calls Try.prog 31 #[.pointer (some ⟨p, 0, none⟩), .int .u64 (now : Int), .int .u64 (at_ : Int), .int .u64 (delay : Int)] w fun e w' => e = .returned (.tuple #[]) ∧ IsR w' p F (sampR ρ (now - at_) delay) ∧ Touch [p] w w' := by
  have HH := Lib.hid h
  obtain ⟨n, hnn⟩ : ∃ n, n = now - at_ := ⟨_, rfl⟩
  have hn2 : n ≤ 1099511627776 := by omega
  rw [← hnn]
  have HO := Lib.hid (sampR_ok (delay := delay) h.ok hn2)
  obtain ⟨aS, cS, aO, cO, h1, _, _, _, _, _, _, hok⟩ := h
  have H1 := Lib.hid h1
  obtain ⟨t1, t2, t3, t4⟩ := hok.times
  clear h1 hok
  cases hm : ρ.samp with
  | false =>
    have HV : Hid (sampR ρ n delay = { ρ with latest := n, samp := true, smooth := n, varied := n / 2, least := n }) := Lib.hid (by unfold sampR; rw [hm]; rfl)
    rw [HV.out] at HO ⊢
    go_enter Try.func31, Try.ntmps31
    go_upto_if 13 with fail
    go_cut [8] from 11 to 16 (fun s8 wx => s8 = .int .u64 (n : Int) ∧ wx = w)
    case first =>
      by_cases hlt : (at_ : Int) < (now : Int)
      · have HS := Lib.hid hnn
        clear hnn
        go_wp2_with fail
        go_meet
        case rel => exact ⟨by rw [HS.out]; congr 1; omega, rfl⟩
      · have hs : n = 0 := by omega
        have HS := Lib.hid hs
        clear hs hnn
        go_wp2_with fail
        go_meet
        case rel => exact ⟨by rw [HS.out]; rfl, rfl⟩
    case rest =>
    obtain ⟨rfl, rfl⟩ := hcut
    clear hnn
    have c3 := H1.out.cell 3
    have c4 := H1.out.cell 4
    have c5 := H1.out.cell 5
    have c6 := H1.out.cell 6
    have c7 := H1.out.cell 7
    have f3 := H1.out.frozen 3
    have f4 := H1.out.frozen 4
    have f5 := H1.out.frozen 5
    have f6 := H1.out.frozen 6
    have f7 := H1.out.frozen 7
    have hl := H1.out.lt
    simp only [rcells, List.getElem?_cons_zero, List.getElem?_cons_succ] at c3 c4 c5 c6 c7
    have hn0 : (0 : Int) ≤ (n : Int) := by omega
    rw [hm] at c7
    clear hm
    go_wp2_with fail
    (try simp only [Exit.inBlock, Exit.then])
    refine bodyPost_ret (results_none rfl _ _ _) rfl ?_
    refine ⟨rfl, IsR.head HH.out (fun a1 c1 a2 c2 hb => ?_) (((((Touch.refl [p] _).set (.inl (by simp)) _).set (.inl (by simp)) _).set (.inl (by simp)) _).set (.inl (by simp)) _ |>.set (.inl (by simp)) _) rfl rfl HO.out, ((((Touch.refl [p] _).set (.inl (by simp)) _).set (.inl (by simp)) _).set (.inl (by simp)) _).set (.inl (by simp)) _ |>.set (.inl (by simp)) _⟩
    have := ((((hb.set 6 (.int .u64 (n : Int))).set 7 (.bool true)).set 3 (.int .u64 (n : Int))).set 4 (.int .u64 ((n / 2 : Nat) : Int))).set 5 (.int .u64 (n : Int))
    exact this
  | true =>
    have HV : Hid (sampR ρ n delay = { ρ with latest := n, least := min ρ.least n, varied := (3 * ρ.varied + (max ρ.smooth (adj (min ρ.least n) n delay) - min ρ.smooth (adj (min ρ.least n) n delay))) / 4, smooth := (7 * ρ.smooth + adj (min ρ.least n) n delay) / 8 }) := Lib.hid (by unfold sampR; rw [hm]; rfl)
    rw [HV.out] at HO ⊢
    obtain ⟨le, hle⟩ : ∃ le, le = min ρ.least n := ⟨_, rfl⟩
    have hmin : min (ρ.least : Int) (n : Int) = (le : Int) := by omega
    have hlen : le ≤ n := by omega
    rw [← hle] at HO ⊢
    obtain ⟨a, haa⟩ : ∃ a, a = adj le n delay := ⟨_, rfl⟩
    have HAJ := Lib.hid haa
    have han : a ≤ n := by rw [haa]; exact adj_le _ _ _
    rw [← haa] at HO ⊢
    clear haa
    go_enter Try.func31, Try.ntmps31
    go_upto_if 13 with fail
    go_cut [8] from 11 to 16 (fun s8 wx => s8 = .int .u64 (n : Int) ∧ wx = w)
    case first =>
      by_cases hlt : (at_ : Int) < (now : Int)
      · have HS := Lib.hid hnn
        clear hnn
        go_wp2_with fail
        go_meet
        case rel => exact ⟨by rw [HS.out]; congr 1; omega, rfl⟩
      · have hs : n = 0 := by omega
        have HS := Lib.hid hs
        clear hs hnn
        go_wp2_with fail
        go_meet
        case rel => exact ⟨by rw [HS.out]; rfl, rfl⟩
    case rest =>
    obtain ⟨rfl, rfl⟩ := hcut
    clear hnn
    have c3 := H1.out.cell 3
    have c4 := H1.out.cell 4
    have c5 := H1.out.cell 5
    have c6 := H1.out.cell 6
    have c7 := H1.out.cell 7
    have f3 := H1.out.frozen 3
    have f4 := H1.out.frozen 4
    have f5 := H1.out.frozen 5
    have f6 := H1.out.frozen 6
    have f7 := H1.out.frozen 7
    have hl := H1.out.lt
    simp only [rcells, List.getElem?_cons_zero, List.getElem?_cons_succ] at c3 c4 c5 c6 c7
    have hn0 : (0 : Int) ≤ (n : Int) := by omega
    rw [hm] at c7
    clear hm
    go_upto_region 9 with fail
    rw [← hle]
    obtain ⟨W, hW⟩ : ∃ W, W = (wc.setCell ⟨p, 6, none⟩ (.int .u64 (n : Int))).setCell ⟨p, 5, none⟩ (.int .u64 (le : Int)) := ⟨_, rfl⟩
    rw [← hW]
    have HTW : Hid (Touch [p] wc W) := Lib.hid (by rw [hW]; exact ((Touch.refl [p] wc).set (.inl (by simp)) _).set (.inl (by simp)) _)
    have HBW : Hid (∀ aS cS aO cO, IsBlk wc p (rcells ρ aS cS aO cO) 68 → IsBlk W p (rcells { ρ with latest := n, least := le } aS cS aO cO) 68) := Lib.hid (fun aS cS aO cO hb => by
      rw [hW]
      exact (hb.set 6 (.int .u64 (n : Int))).set 5 (.int .u64 (le : Int)))
    have HB1 := Lib.hid (HBW.out _ _ _ _ H1.out)
    clear hW c3 c4 c5 c6 c7 f3 f4 f5 f6 f7 hl hmin
    have b3 := HB1.out.cell 3
    have b4 := HB1.out.cell 4
    have b5 := HB1.out.cell 5
    have f3 := HB1.out.frozen 3
    have f4 := HB1.out.frozen 4
    have bl := HB1.out.lt
    simp only [rcells, List.getElem?_cons_zero, List.getElem?_cons_succ] at b3 b4 b5
    by_cases hdl : (delay : Int) ≤ (n : Int)
    · by_cases hle2 : (le : Int) ≤ (n : Int) - (delay : Int)
      · have HA : Hid ((a : Int) = (n : Int) - (delay : Int)) := Lib.hid (by rw [HAJ.out]; unfold adj; rw [if_pos ⟨by omega, by omega⟩]; omega)
        go_wp2_with fail
        go_quiet (fail)
        (try rw [← HA.out])
        have hmx : max (ρ.smooth : Int) (a : Int) - min (ρ.smooth : Int) (a : Int) = ((max ρ.smooth a - min ρ.smooth a : Nat) : Int) := by omega
        rw [hmx]
        obtain ⟨ap, hap⟩ : ∃ ap, ap = max ρ.smooth a - min ρ.smooth a := ⟨_, rfl⟩
        rw [← hap] at HO ⊢
        have hapb : ap ≤ 1099511627776 := by omega
        have p1 : (0 : Int) ≤ 3 * (ρ.varied : Int) + (ap : Int) := by omega
        have p2 : (0 : Int) ≤ 7 * (ρ.smooth : Int) + (a : Int) := by omega
        have HAP := Lib.hid hap
        clear hmx hap
        obtain ⟨V, hV⟩ : ∃ V, V = W.drewN nq := ⟨_, rfl⟩
        rw [← hV]
        have HTV : Hid (Touch [p] wc V) := Lib.hid (by rw [hV]; exact HTW.out.drewN _)
        have HBV : Hid (∀ aS cS aO cO, IsBlk wc p (rcells ρ aS cS aO cO) 68 → IsBlk V p (rcells { ρ with latest := n, least := le } aS cS aO cO) 68) := Lib.hid (fun aS cS aO cO hb => by rw [hV]; exact (HBW.out _ _ _ _ hb).touch (ks := []) ((Touch.refl _ _).drewN _) (by simp))
        have HB2 := Lib.hid (HBV.out _ _ _ _ H1.out)
        clear hV b3 b4 b5 f3 f4 bl
        have b3 := HB2.out.cell 3
        have b4 := HB2.out.cell 4
        have f3 := HB2.out.frozen 3
        have f4 := HB2.out.frozen 4
        have bl := HB2.out.lt
        simp only [rcells, List.getElem?_cons_zero, List.getElem?_cons_succ] at b3 b4
        go_wp2_with fail
        go_end0
        have hT : Touch [p] wc ((V.setCell ⟨p, 4, none⟩ (.int .u64 ((3 * (ρ.varied : Int) + (ap : Int)) / 4))).setCell ⟨p, 3, none⟩ (.int .u64 ((7 * (ρ.smooth : Int) + (a : Int)) / 8))) := (HTV.out.set (.inl (by simp)) _).set (.inl (by simp)) _
        refine ⟨rfl, IsR.head HH.out (fun aS cS aO cO hb => ?_) hT rfl rfl (by rw [← HAP.out]; exact HO.out), hT⟩
        have h1 := ((HBV.out aS cS aO cO hb).set 4 (.int .u64 ((3 * (ρ.varied : Int) + (ap : Int)) / 4))).set 3 (.int .u64 ((7 * (ρ.smooth : Int) + (a : Int)) / 8))
        have e1 : (3 * (ρ.varied : Int) + (ap : Int)) / 4 = (((3 * ρ.varied + (max ρ.smooth a - min ρ.smooth a)) / 4 : Nat) : Int) := by rw [← HAP.out]; omega
        have e2 : (7 * (ρ.smooth : Int) + (a : Int)) / 8 = (((7 * ρ.smooth + a) / 8 : Nat) : Int) := by omega
        rw [e1, e2] at h1 ⊢
        exact h1
      · have HA : Hid ((a : Int) = (n : Int)) := Lib.hid (by rw [HAJ.out]; unfold adj; rw [if_neg (by omega)])
        go_wp2_with fail
        go_quiet (fail)
        (try rw [← HA.out])
        have hmx : max (ρ.smooth : Int) (a : Int) - min (ρ.smooth : Int) (a : Int) = ((max ρ.smooth a - min ρ.smooth a : Nat) : Int) := by omega
        rw [hmx]
        obtain ⟨ap, hap⟩ : ∃ ap, ap = max ρ.smooth a - min ρ.smooth a := ⟨_, rfl⟩
        rw [← hap] at HO ⊢
        have hapb : ap ≤ 1099511627776 := by omega
        have p1 : (0 : Int) ≤ 3 * (ρ.varied : Int) + (ap : Int) := by omega
        have p2 : (0 : Int) ≤ 7 * (ρ.smooth : Int) + (a : Int) := by omega
        have HAP := Lib.hid hap
        clear hmx hap
        obtain ⟨V, hV⟩ : ∃ V, V = W.drewN nq := ⟨_, rfl⟩
        rw [← hV]
        have HTV : Hid (Touch [p] wc V) := Lib.hid (by rw [hV]; exact HTW.out.drewN _)
        have HBV : Hid (∀ aS cS aO cO, IsBlk wc p (rcells ρ aS cS aO cO) 68 → IsBlk V p (rcells { ρ with latest := n, least := le } aS cS aO cO) 68) := Lib.hid (fun aS cS aO cO hb => by rw [hV]; exact (HBW.out _ _ _ _ hb).touch (ks := []) ((Touch.refl _ _).drewN _) (by simp))
        have HB2 := Lib.hid (HBV.out _ _ _ _ H1.out)
        clear hV b3 b4 b5 f3 f4 bl
        have b3 := HB2.out.cell 3
        have b4 := HB2.out.cell 4
        have f3 := HB2.out.frozen 3
        have f4 := HB2.out.frozen 4
        have bl := HB2.out.lt
        simp only [rcells, List.getElem?_cons_zero, List.getElem?_cons_succ] at b3 b4
        go_wp2_with fail
        go_end0
        have hT : Touch [p] wc ((V.setCell ⟨p, 4, none⟩ (.int .u64 ((3 * (ρ.varied : Int) + (ap : Int)) / 4))).setCell ⟨p, 3, none⟩ (.int .u64 ((7 * (ρ.smooth : Int) + (a : Int)) / 8))) := (HTV.out.set (.inl (by simp)) _).set (.inl (by simp)) _
        refine ⟨rfl, IsR.head HH.out (fun aS cS aO cO hb => ?_) hT rfl rfl (by rw [← HAP.out]; exact HO.out), hT⟩
        have h1 := ((HBV.out aS cS aO cO hb).set 4 (.int .u64 ((3 * (ρ.varied : Int) + (ap : Int)) / 4))).set 3 (.int .u64 ((7 * (ρ.smooth : Int) + (a : Int)) / 8))
        have e1 : (3 * (ρ.varied : Int) + (ap : Int)) / 4 = (((3 * ρ.varied + (max ρ.smooth a - min ρ.smooth a)) / 4 : Nat) : Int) := by rw [← HAP.out]; omega
        have e2 : (7 * (ρ.smooth : Int) + (a : Int)) / 8 = (((7 * ρ.smooth + a) / 8 : Nat) : Int) := by omega
        rw [e1, e2] at h1 ⊢
        exact h1
    · have HA : Hid ((a : Int) = (n : Int)) := Lib.hid (by rw [HAJ.out]; unfold adj; rw [if_neg (by omega)])
      go_wp2_with fail
      go_quiet (fail)
      (try rw [← HA.out])
      have hmx : max (ρ.smooth : Int) (a : Int) - min (ρ.smooth : Int) (a : Int) = ((max ρ.smooth a - min ρ.smooth a : Nat) : Int) := by omega
      rw [hmx]
      obtain ⟨ap, hap⟩ : ∃ ap, ap = max ρ.smooth a - min ρ.smooth a := ⟨_, rfl⟩
      rw [← hap] at HO ⊢
      have hapb : ap ≤ 1099511627776 := by omega
      have p1 : (0 : Int) ≤ 3 * (ρ.varied : Int) + (ap : Int) := by omega
      have p2 : (0 : Int) ≤ 7 * (ρ.smooth : Int) + (a : Int) := by omega
      have HAP := Lib.hid hap
      clear hmx hap
      obtain ⟨V, hV⟩ : ∃ V, V = W.drewN nq := ⟨_, rfl⟩
      rw [← hV]
      have HTV : Hid (Touch [p] wc V) := Lib.hid (by rw [hV]; exact HTW.out.drewN _)
      have HBV : Hid (∀ aS cS aO cO, IsBlk wc p (rcells ρ aS cS aO cO) 68 → IsBlk V p (rcells { ρ with latest := n, least := le } aS cS aO cO) 68) := Lib.hid (fun aS cS aO cO hb => by rw [hV]; exact (HBW.out _ _ _ _ hb).touch (ks := []) ((Touch.refl _ _).drewN _) (by simp))
      have HB2 := Lib.hid (HBV.out _ _ _ _ H1.out)
      clear hV b3 b4 b5 f3 f4 bl
      have b3 := HB2.out.cell 3
      have b4 := HB2.out.cell 4
      have f3 := HB2.out.frozen 3
      have f4 := HB2.out.frozen 4
      have bl := HB2.out.lt
      simp only [rcells, List.getElem?_cons_zero, List.getElem?_cons_succ] at b3 b4
      go_wp2_with fail
      go_end0
      have hT : Touch [p] wc ((V.setCell ⟨p, 4, none⟩ (.int .u64 ((3 * (ρ.varied : Int) + (ap : Int)) / 4))).setCell ⟨p, 3, none⟩ (.int .u64 ((7 * (ρ.smooth : Int) + (a : Int)) / 8))) := (HTV.out.set (.inl (by simp)) _).set (.inl (by simp)) _
      refine ⟨rfl, IsR.head HH.out (fun aS cS aO cO hb => ?_) hT rfl rfl (by rw [← HAP.out]; exact HO.out), hT⟩
      have h1 := ((HBV.out aS cS aO cO hb).set 4 (.int .u64 ((3 * (ρ.varied : Int) + (ap : Int)) / 4))).set 3 (.int .u64 ((7 * (ρ.smooth : Int) + (a : Int)) / 8))
      have e1 : (3 * (ρ.varied : Int) + (ap : Int)) / 4 = (((3 * ρ.varied + (max ρ.smooth a - min ρ.smooth a)) / 4 : Nat) : Int) := by rw [← HAP.out]; omega
      have e2 : (7 * (ρ.smooth : Int) + (a : Int)) / 8 = (((7 * ρ.smooth + a) / 8 : Nat) : Int) := by omega
      rw [e1, e2] at h1 ⊢
      exact h1
end Go.Proofs.Ythnokfchebmjiaa
