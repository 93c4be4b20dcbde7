/- The contracts of Tick and Ack. Conditions: the ledger is in order; the ranges lie beside it; the times are small. -/
import Derived.Test.YthnokfchebmjiaaY
namespace Go.Proofs.Ythnokfchebmjiaa
open Go.RowKit

theorem tick_any (w : World) (p : Nat) (F : List Nat) (σ : Ldg) (now : Nat) (h : IsL w p F σ) (hn : now < 18446744073709551616) :
    Calls Try.prog 20 #[.pointer (some ⟨p, 0, none⟩), .int .u64 (now : Int)] w fun e w' => ∃ v, e = .returned v ∧ Sl w' 28 1 v (lostL σ now).length (us (pns (lostL σ now))) ∧ StepK w p F (lostS σ now) w' ∧ ∀ g ∈ own v, w.heap.size ≤ g := by
  have H := Lib.hid (lost_any w p F σ now h hn)
  clear h
  go_enter Try.func20, Try.ntmps20
  go_wp2_with fail
  refine H.out.mono ?_
  rintro e w2 ⟨v, rfl, k⟩
  obtain ⟨a, c, rfl, _⟩ := k.1.form
  have K := Lib.hid k
  clear k
  go_wp2_with fail
  go_ret
  exact ⟨_, rfl, K.out⟩

/-- The ranges are not what was sent. -/
def ackBad (σ : Ldg) (L : List Rng) : Bool := L.any fun x => decide (x.2 < x.1) || !whB x.1 x.2 σ.sent
def goneA (σ : Ldg) (L : List Rng) : List Pkt := σ.opens.filter fun s => hasB s.pn L
def leftA (σ : Ldg) (L : List Rng) : Ldg := { σ with opens := σ.opens.filter fun s => !hasB s.pn L }
def ackS (σ : Ldg) (L : List Rng) (now delay : Nat) : Ldg := match (goneA σ L).getLast? with
  | none => leftA σ L
  | some s => if σ.largest < (s.pn : Int) then { (if s.eager then sampleS (leftA σ L) (now - min s.when_ now) delay else leftA σ L) with largest := (s.pn : Int) } else leftA σ L
theorem gone_mem {σ : Ldg} {L : List Rng} {s : Pkt} (h : (goneA σ L).getLast? = some s) : s ∈ σ.opens := (List.mem_filter.1 (List.mem_of_getLast? h)).1
set_option maxHeartbeats 4000000 in
theorem ack_bad (w : World) (p : Nat) (F : List Nat) (σ : Ldg) (ar : Option Addr) (cr_ : Nat) (L : List Rng) (now delay : Nat) (h : IsL w p F σ) (hr : Rd w 2 (.slice ar L.length cr_) L.length (cr L)) (hL : L.length ≤ 100000) (hb : ackBad σ L = true) :
    Calls Try.prog 12 #[.pointer (some ⟨p, 0, none⟩), .slice ar L.length cr_, .int .u64 (now : Int), .int .u64 (delay : Int)] w fun e w' => e = .returned (.tuple #[.slice none 0 0, .slice none 0 0, .int .i64 43]) ∧ Touch [] w w' := by
  have H := Lib.hid h
  have HR := Lib.hid hr
  have HB := Lib.hid hb
  clear h hr hb
  go_enter Try.func12, Try.ntmps12
  go_wp2_with fail
  go_loopw [17] (fun i wr => ∃ k : Nat, k ≤ L.length ∧ i = .int .i64 (k : Int) ∧ Hid (ackBad σ (L.take k) = false) ∧ Hid (Touch [] w wr) ∧ Hid (IsBlk wr w.heap.size [.pointer (some ⟨p, 0, none⟩)] 24)) (fun i _ => L.length - (intOf i).toNat)
  case atStart => exact ⟨0, by omega, rfl, Lib.hid (by simp [ackBad]), Lib.hid (((Touch.refl _ _).alloc _).alloc _), Lib.hid ((IsBlk.new w [.pointer (some ⟨p, 0, none⟩)] 24).touch (ks := []) ((Touch.refl _ _).alloc _) (by simp))⟩
  case round =>
    obtain ⟨k, hk, rfl, HF, HT, HK⟩ := hrel
    by_cases hlt : k < L.length
    · have hlt' : (k : Int) < (L.length : Int) := by omega
      obtain ⟨x, hx⟩ : ∃ x, L[k]? = some x := ⟨_, List.getElem?_eq_getElem hlt⟩
      obtain ⟨g, o, rfl⟩ := HR.out.some (by omega)
      obtain ⟨c1, c2, hg⟩ := (HR.out.touch HT.out (by simp)).two rfl k x hx
      have kc := HK.out.cell 0
      have kl := HK.out.lt
      simp only [List.getElem?_cons_zero] at kc
      have HX : Hid (ackBad σ (L.take (k + 1)) = (decide (x.2 < x.1) || !whB x.1 x.2 σ.sent)) := Lib.hid (by
        have hf := HF.out
        unfold ackBad at hf ⊢
        rw [List.take_add_one, hx, List.any_append, hf]
        simp)
      obtain ⟨x1, x2⟩ := x
      simp only at c1 c2 HX
      clear hx
      by_cases h12 : (x2 : Int) < (x1 : Int)
      · go_wp2_with fail
        refine bodyPost_ret (v := .tuple #[.slice none 0 0, .slice none 0 0, .int .i64 43]) (by simp [results, Try.results12, go_sem]) rfl ?_
        exact ⟨rfl, HT.out.alloc _⟩
      · obtain ⟨β, hβ⟩ : ∃ β, β = whB x1 x2 σ.sent := ⟨_, rfl⟩
        have HBE := Lib.hid hβ
        clear hβ
        go_wp2_with fail
        refine (whole_any _ p F σ x1 x2 (H.out.keep (HT.out.alloc _))).mono ?_
        rw [← HBE.out]
        rintro e w3 ⟨rfl, hT3⟩
        have HT3 := Lib.hid ((HT.out.alloc (.cells #[.int .u64 (x1 : Int), .int .u64 (x2 : Int)] 35)).trans hT3 (by simp))
        have HK3 := Lib.hid ((HK.out.touch (ks := []) ((Touch.refl _ _).alloc _) (by simp)).touch hT3 (by simp))
        clear hT3
        cases β with
        | true =>
          go_wp2_with fail
          go_roundw
          case rel => exact ⟨k + 1, by omega, by go_num, Lib.hid (by rw [HX.out, ← HBE.out]; simp; omega), HT3, HK3⟩
          case measure => simp [intOf]; omega
        | false =>
          go_wp2_with fail
          refine bodyPost_ret (v := .tuple #[.slice none 0 0, .slice none 0 0, .int .i64 43]) (by simp [results, Try.results12, go_sem]) rfl ?_
          exact ⟨rfl, HT3.out⟩
    · obtain rfl : k = L.length := by omega
      exact absurd HB.out (by have := HF.out; rw [List.take_length] at this; rw [this]; decide)
end Go.Proofs.Ythnokfchebmjiaa
