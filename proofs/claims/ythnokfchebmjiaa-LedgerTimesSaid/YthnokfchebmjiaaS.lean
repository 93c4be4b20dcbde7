/- The contract of sample. Conditions: the ledger is in order; the sample is small. -/
import Derived.Test.YthnokfchebmjiaaG
namespace Go.Proofs.Ythnokfchebmjiaa
open Go.RowKit

def adj (least n delay : Nat) : Nat := if least ≤ n ∧ delay ≤ n - least then n - delay else n
def sampleS (σ : Ldg) (n delay : Nat) : Ldg :=
  if σ.meas then { σ with latest := n, least := min σ.least n, varied := (3 * σ.varied + (max σ.smooth (adj (min σ.least n) n delay) - min σ.smooth (adj (min σ.least n) n delay))) / 4, smooth := (7 * σ.smooth + adj (min σ.least n) n delay) / 8 }
  else { σ with latest := n, meas := true, smooth := n, varied := n / 2, least := n }
theorem adj_le (a n d : Nat) : adj a n d ≤ n := by unfold adj; split <;> omega
theorem sample_ok {σ : Ldg} (h : σ.Ok) {n delay : Nat} (hn : n ≤ 1099511627776) : (sampleS σ n delay).Ok := by
  have ht := h.times
  have ha := adj_le (min σ.least n) n delay
  unfold sampleS
  split
  · exact ⟨h.rise, h.each, h.sent, h.most, h.last, h.largest, ⟨by show (7 * σ.smooth + _) / 8 ≤ _; omega, by show (3 * σ.varied + _) / 4 ≤ _; omega, by show min σ.least n ≤ _; omega, hn⟩, h.nopen, h.nsent, h.tot⟩
  · exact ⟨h.rise, h.each, h.sent, h.most, h.last, h.largest, ⟨hn, by show n / 2 ≤ _; omega, hn, hn⟩, h.nopen, h.nsent, h.tot⟩
/-- Only the head's own cells are turned. -/
theorem IsL.head {w w' : World} {p : Nat} {F : List Nat} {σ τ : Ldg} (h : IsL w p F σ) (hB : ∀ mb ao co q, IsBlk w p (lcells σ mb ao co q) 64 → IsBlk w' p (lcells τ mb ao co q) 64) (hT : Touch [p] w w') (e1 : τ.opens = σ.opens) (e2 : τ.sent = σ.sent) (e3 : τ.tot = σ.tot) (hok : τ.Ok) : IsL w' p F τ := by
  obtain ⟨mb, ao, co, q, Fq, m, h1, h2, h3, h4, hF, d1, d2, d3, _, hm⟩ := h
  refine ⟨mb, ao, co, q, Fq, m, hB _ _ _ _ h1, ?_, ?_, ?_, ?_, ?_, ?_, ?_, hok, by rw [e3]; exact hm⟩
  · rw [e1]; exact h2.touch hT (by simp; exact fun e => d1.1 e.symm)
  · rw [e1]; exact h3.touch hT (fun g hg hm => d1.2.1 (by simp at hm; rw [← hm]; exact hg))
  · rw [e2]; exact h4.touch hT (fun g hg hm => d1.2.2 (by simp at hm; rw [← hm]; exact hg))
  · rw [e1]; exact hF
  · rw [e1]; exact d1
  · rw [e1]; exact d2
  · rw [e1]; exact d3
theorem IsL.mem {w : World} {p : Nat} {F : List Nat} {σ : Ldg} (h : IsL w p F σ) : p ∈ F := by
  obtain ⟨mb, ao, co, q, Fq, m, _, _, _, _, rfl, _⟩ := h
  simp

set_option maxHeartbeats 4000000 in
set_option maxRecDepth 100000 in
theorem sample_any (w : World) (p : Nat) (F : List Nat) (σ : Ldg) (n delay : Nat) (h : IsL w p F σ) (hn : n ≤ 1099511627776) (hd : delay < 18446744073709551616) :
    Calls Try.prog 27 #[.pointer (some ⟨p, 0, none⟩), .int .u64 (n : Int), .int .u64 (delay : Int)] w fun e w' => e = .returned (.tuple #[]) ∧ IsL w' p F (sampleS σ n delay) ∧ Touch [p] w w' := by
  have HH := Lib.hid h
  have HO := Lib.hid (sample_ok (delay := delay) h.ok hn)
  obtain ⟨mb, ao, co, q, Fq, m, h1, _, _, _, _, _, _, _, hok, _⟩ := h
  have H1 := Lib.hid h1
  have c5 := h1.cell 5
  have c6 := h1.cell 6
  have c7 := h1.cell 7
  have c8 := h1.cell 8
  have c9 := h1.cell 9
  have f5 := h1.frozen 5
  have f6 := h1.frozen 6
  have f7 := h1.frozen 7
  have f8 := h1.frozen 8
  have f9 := h1.frozen 9
  have hl := h1.lt
  simp only [lcells, List.getElem?_cons_zero, List.getElem?_cons_succ] at c5 c6 c7 c8 c9
  obtain ⟨t1, t2, t3, t4⟩ := hok.times
  clear h1 hok
  cases hm : σ.meas with
  | false =>
    have HV : Hid (sampleS σ n delay = { σ with latest := n, meas := true, smooth := n, varied := n / 2, least := n }) := Lib.hid (by unfold sampleS; rw [hm]; rfl)
    rw [HV.out] at HO ⊢
    rw [hm] at c5
    have hn0 : (0 : Int) ≤ (n : Int) := by omega
    clear hm
    go_enter Try.func27, Try.ntmps27
    go_wp2_with fail
    (try simp only [Exit.inBlock, Exit.then])
    refine bodyPost_ret (results_none rfl _ _ _) rfl ?_
    refine ⟨rfl, IsL.head HH.out (fun mb ao co q hb => ?_) (((((Touch.refl [p] w).set (.inl (by simp)) _).set (.inl (by simp)) _).set (.inl (by simp)) _).set (.inl (by simp)) _ |>.set (.inl (by simp)) _) rfl rfl rfl HO.out, ((((Touch.refl [p] w).set (.inl (by simp)) _).set (.inl (by simp)) _).set (.inl (by simp)) _).set (.inl (by simp)) _ |>.set (.inl (by simp)) _⟩
    have := ((((hb.set 9 (.int .u64 (n : Int))).set 5 (.bool true)).set 6 (.int .u64 (n : Int))).set 7 (.int .u64 ((n / 2 : Nat) : Int))).set 8 (.int .u64 (n : Int))
    exact this
  | true =>
    have HV : Hid (sampleS σ n delay = { σ with latest := n, least := min σ.least n, varied := (3 * σ.varied + (max σ.smooth (adj (min σ.least n) n delay) - min σ.smooth (adj (min σ.least n) n delay))) / 4, smooth := (7 * σ.smooth + adj (min σ.least n) n delay) / 8 }) := Lib.hid (by unfold sampleS; rw [hm]; rfl)
    rw [HV.out] at HO ⊢
    rw [hm] at c5
    clear hm
    obtain ⟨le, hle⟩ : ∃ le, le = min σ.least n := ⟨_, rfl⟩
    have hmin : min (σ.least : Int) (n : Int) = (le : Int) := by omega
    have hlen : le ≤ n := by omega
    rw [← hle] at HO ⊢
    go_enter Try.func27, Try.ntmps27
    obtain ⟨a, ha⟩ : ∃ a, a = adj le n delay := ⟨_, rfl⟩
    have HAJ := Lib.hid ha
    have han : a ≤ n := by rw [ha]; exact adj_le _ _ _
    rw [← ha] at HO ⊢
    clear ha
    go_upto_if 58 with fail
    rw [← hle]
    obtain ⟨W, hW⟩ : ∃ W, W = (w.setCell ⟨p, 9, none⟩ (.int .u64 (n : Int))).setCell ⟨p, 8, none⟩ (.int .u64 (le : Int)) := ⟨_, rfl⟩
    rw [← hW]
    have HTW : Hid (Touch [p] w W) := Lib.hid (by rw [hW]; exact ((Touch.refl [p] w).set (.inl (by simp)) _).set (.inl (by simp)) _)
    have HBW : Hid (∀ mb ao co q, IsBlk w p (lcells σ mb ao co q) 64 → IsBlk W p (lcells { σ with latest := n, least := le } mb ao co q) 64) := Lib.hid (fun mb ao co q hb => by
      rw [hW]
      exact (hb.set 9 (.int .u64 (n : Int))).set 8 (.int .u64 (le : Int)))
    have HB1 := Lib.hid (HBW.out _ _ _ _ H1.out)
    clear hW c5 c6 c7 c8 c9 f5 f6 f7 f8 f9 hl hmin
    have b6 := HB1.out.cell 6
    have b7 := HB1.out.cell 7
    have b8 := HB1.out.cell 8
    have f6 := HB1.out.frozen 6
    have f7 := HB1.out.frozen 7
    have bl := HB1.out.lt
    simp only [lcells, List.getElem?_cons_zero, List.getElem?_cons_succ] at b6 b7 b8
    have hle2 : (le : Int) ≤ (n : Int) := by omega
    go_cut [6] (fun s6 wx => s6 = .int .u64 (a : Int) ∧ wx = W)
    case first =>
      by_cases hdl : (delay : Int) ≤ (n : Int) - (le : Int)
      · have HA : Hid (a = n - delay) := Lib.hid (by rw [HAJ.out]; unfold adj; rw [if_pos ⟨by omega, by omega⟩])
        go_wp2_with fail
        go_meet
        case rel => exact ⟨by rw [HA.out]; congr 1; omega, rfl⟩
      · have HA : Hid (a = n) := Lib.hid (by rw [HAJ.out]; unfold adj; rw [if_neg (fun h => hdl (by omega))])
        go_wp2_with fail
        go_meet
        case rel => exact ⟨by rw [HA.out], rfl⟩
    case rest =>
    obtain ⟨rfl, rfl⟩ := hcut
    have hmx : max (σ.smooth : Int) (a : Int) - min (σ.smooth : Int) (a : Int) = ((max σ.smooth a - min σ.smooth a : Nat) : Int) := by omega
    have hmx0 : (0 : Int) ≤ max (σ.smooth : Int) (a : Int) - min (σ.smooth : Int) (a : Int) := by omega
    go_wp2_with fail
    go_quiet (fail)
    obtain ⟨ap, hap⟩ : ∃ ap, ap = max σ.smooth a - min σ.smooth a := ⟨_, rfl⟩
    rw [← hap] at HO ⊢
    have hapb : ap ≤ 1099511627776 := by omega
    have p1 : (0 : Int) ≤ 3 * (σ.varied : Int) + (ap : Int) := by omega
    have p2 : (0 : Int) ≤ 7 * (σ.smooth : Int) + (a : Int) := by omega
    have HAP := Lib.hid hap
    clear hmx hmx0 hap
    obtain ⟨V, hV⟩ : ∃ V, V = wc.drewN nq := ⟨_, rfl⟩
    rw [← hV]
    have HTV : Hid (Touch [p] w V) := Lib.hid (by rw [hV]; exact HTW.out.drewN _)
    have HBV : Hid (∀ mb ao co q, IsBlk w p (lcells σ mb ao co q) 64 → IsBlk V p (lcells { σ with latest := n, least := le } mb ao co q) 64) := Lib.hid (fun mb ao co q hb => by rw [hV]; exact (HBW.out _ _ _ _ hb).touch (ks := []) ((Touch.refl _ _).drewN _) (by simp))
    have HB2 := Lib.hid (HBV.out _ _ _ _ H1.out)
    clear hV b6 b7 b8 f6 f7 bl
    have b6 := HB2.out.cell 6
    have b7 := HB2.out.cell 7
    have f6 := HB2.out.frozen 6
    have f7 := HB2.out.frozen 7
    have bl := HB2.out.lt
    simp only [lcells, List.getElem?_cons_zero, List.getElem?_cons_succ] at b6 b7
    go_wp2_with fail
    go_end0
    have hT : Touch [p] w ((V.setCell ⟨p, 7, none⟩ (.int .u64 ((3 * (σ.varied : Int) + (ap : Int)) / 4))).setCell ⟨p, 6, none⟩ (.int .u64 ((7 * (σ.smooth : Int) + (a : Int)) / 8))) := (HTV.out.set (.inl (by simp)) _).set (.inl (by simp)) _
    refine ⟨rfl, IsL.head HH.out (fun mb ao co q hb => ?_) hT rfl rfl rfl (by rw [← HAP.out]; exact HO.out), hT⟩
    have h1 := ((HBV.out mb ao co q hb).set 7 (.int .u64 ((3 * (σ.varied : Int) + (ap : Int)) / 4))).set 6 (.int .u64 ((7 * (σ.smooth : Int) + (a : Int)) / 8))
    have e1 : (3 * (σ.varied : Int) + (ap : Int)) / 4 = (((3 * σ.varied + (max σ.smooth a - min σ.smooth a)) / 4 : Nat) : Int) := by rw [← HAP.out]; omega
    have e2 : (7 * (σ.smooth : Int) + (a : Int)) / 8 = (((7 * σ.smooth + a) / 8 : Nat) : Int) := by omega
    rw [e1, e2] at h1 ⊢
    exact h1
end Go.Proofs.Ythnokfchebmjiaa
