/- The contracts of the document's Flight, Opens, Tick where nothing is open; in and was. Conditions: the ledger is in order. -/
import Derived.Test.YthnokfchebmjiaaRa
namespace Go.Proofs.Ythnokfchebmjiaa
open Go.RowKit

/-- Nothing is open. -/
def RL.Shut (ρ : RL) : Prop := ∀ b ∈ ρ.opn, b = false
theorem RL.Shut.at {ρ : RL} (h : ρ.Shut) (hok : ρ.Ok) {i : Nat} (hi : i < ρ.sent.length) : ρ.opn[i]? = some false := by
  have hl : i < ρ.opn.length := by rw [hok.ln]; exact hi
  rw [List.getElem?_eq_getElem hl, h _ (List.getElem_mem hl)]
theorem flightR_any (w : World) (p : Nat) (F : List Nat) (ρ : RL) (h : IsR w p F ρ) (hs : ρ.Shut) : Calls Try.prog 34 #[.pointer (some ⟨p, 0, none⟩)] w fun e w' => e = .returned (.int .i64 0) ∧ Touch [] w w' := by
  have HH := Lib.hid h
  have HS := Lib.hid hs
  have hfew := h.ok.few
  clear h hs
  go_enter Try.func34, Try.ntmps34
  go_wp2_with fail
  go_loopw [3, 4] (fun s3 i wr => ∃ k : Nat, k ≤ ρ.sent.length ∧ s3 = .int .i64 0 ∧ i = .int .i64 (k : Int) ∧ Hid (Touch [] w wr)) (fun _ i _ => ρ.sent.length - (intOf i).toNat)
  case atStart => exact ⟨0, by omega, rfl, rfl, Lib.hid (Touch.refl _ _)⟩
  case round =>
    obtain ⟨k, hk, rfl, rfl, HT⟩ := hrel
    obtain ⟨aS, cS, aO, cO, h1, h2, h3, _, _, _, _, hok⟩ := HH.out.touch HT.out (by simp)
    have c0 := h1.cell 0
    have c1 := h1.cell 1
    have hl := h1.lt
    simp only [rcells, List.getElem?_cons_zero, List.getElem?_cons_succ] at c0 c1
    by_cases hlt : k < ρ.sent.length
    · have hlt' : (k : Int) < (ρ.sent.length : Int) := by omega
      obtain ⟨g, o, rfl, hg, e1, _⟩ := h3.bool hok.ln (HS.out.at hok hlt)
      clear h1 h2 h3 hok
      go_wp2_with fail
      go_roundw
      case rel => exact ⟨k + 1, by omega, rfl, by go_num, HT⟩
      case measure => simp [intOf]; omega
    · obtain rfl : k = ρ.sent.length := by omega
      clear h1 h2 h3 hok
      go_wp2_with fail
      go_ret
      exact ⟨rfl, HT.out⟩
theorem opensR_any (w : World) (p : Nat) (F : List Nat) (ρ : RL) (h : IsR w p F ρ) (hs : ρ.Shut) : Calls Try.prog 35 #[.pointer (some ⟨p, 0, none⟩)] w fun e w' => e = .returned (.slice none 0 0) ∧ Touch [] w w' := by
  have HH := Lib.hid h
  have HS := Lib.hid hs
  have hfew := h.ok.few
  clear h hs
  go_enter Try.func35, Try.ntmps35
  go_wp2_with fail
  go_loopw [3, 4] (fun s3 i wr => ∃ k : Nat, k ≤ ρ.sent.length ∧ s3 = .slice none 0 0 ∧ i = .int .i64 (k : Int) ∧ Hid (Touch [] w wr)) (fun _ i _ => ρ.sent.length - (intOf i).toNat)
  case atStart => exact ⟨0, by omega, rfl, rfl, Lib.hid (Touch.refl _ _)⟩
  case round =>
    obtain ⟨k, hk, rfl, rfl, HT⟩ := hrel
    obtain ⟨aS, cS, aO, cO, h1, h2, h3, _, _, _, _, hok⟩ := HH.out.touch HT.out (by simp)
    have c0 := h1.cell 0
    have c1 := h1.cell 1
    have hl := h1.lt
    simp only [rcells, List.getElem?_cons_zero, List.getElem?_cons_succ] at c0 c1
    by_cases hlt : k < ρ.sent.length
    · have hlt' : (k : Int) < (ρ.sent.length : Int) := by omega
      obtain ⟨g, o, rfl, hg, e1, _⟩ := h3.bool hok.ln (HS.out.at hok hlt)
      clear h1 h2 h3 hok
      go_wp2_with fail
      go_roundw
      case rel => exact ⟨k + 1, by omega, rfl, by go_num, HT⟩
      case measure => simp [intOf]; omega
    · obtain rfl : k = ρ.sent.length := by omega
      clear h1 h2 h3 hok
      go_wp2_with fail
      go_ret
      exact ⟨rfl, HT.out⟩
theorem tickR_any (w : World) (p : Nat) (F : List Nat) (ρ : RL) (now : Nat) (h : IsR w p F ρ) (hs : ρ.Shut) (hp : ρ.samp = true) : Calls Try.prog 32 #[.pointer (some ⟨p, 0, none⟩), .int .u64 (now : Int)] w fun e w' => e = .returned (.slice none 0 0) ∧ Touch [] w w' := by
  have HH := Lib.hid h
  have HS := Lib.hid hs
  have HP := Lib.hid hp
  have hfew := h.ok.few
  obtain ⟨t1, t2, t3, t4⟩ := h.ok.times
  obtain ⟨aS, cS, aO, cO, h1, _⟩ := h
  have c3 := h1.cell 3
  have c6 := h1.cell 6
  have c7 := h1.cell 7
  have hl := h1.lt
  simp only [rcells, List.getElem?_cons_zero, List.getElem?_cons_succ] at c3 c6 c7
  rw [hp] at c7
  clear h1 hs hp
  have m0 : (0 : Int) ≤ max (ρ.smooth : Int) (ρ.latest : Int) := by omega
  have m1 : max (ρ.smooth : Int) (ρ.latest : Int) ≤ 1099511627776 := by omega
  go_enter Try.func32, Try.ntmps32
  go_wp2_with fail
  go_quiet (fail)
  obtain ⟨W, hW⟩ : ∃ W, W = w.drewN nq := ⟨_, rfl⟩
  have HT0 : Hid (Touch [] w W) := Lib.hid (by rw [hW]; exact (Touch.refl _ _).drewN _)
  rw [← hW]
  clear hW c3 c6 c7 hl
  go_wp2_with fail
  go_loopw [6, 7] (fun s6 i wr => ∃ k : Nat, k ≤ ρ.sent.length ∧ s6 = .slice none 0 0 ∧ i = .int .i64 (k : Int) ∧ Hid (Touch [] w wr)) (fun _ i _ => ρ.sent.length - (intOf i).toNat)
  case atStart => exact ⟨0, by omega, rfl, rfl, HT0⟩
  case round =>
    obtain ⟨k, hk, rfl, rfl, HT⟩ := hrel
    obtain ⟨aS, cS, aO, cO, h1, h2, h3, _, _, _, _, hok⟩ := HH.out.touch HT.out (by simp)
    have c0 := h1.cell 0
    have c1 := h1.cell 1
    have hl := h1.lt
    simp only [rcells, List.getElem?_cons_zero, List.getElem?_cons_succ] at c0 c1
    by_cases hlt : k < ρ.sent.length
    · have hlt' : (k : Int) < (ρ.sent.length : Int) := by omega
      obtain ⟨s, hsk⟩ : ∃ s, ρ.sent[k]? = some s := ⟨_, List.getElem?_eq_getElem hlt⟩
      obtain ⟨g, o, rfl, hg, e1, _⟩ := h3.bool hok.ln (HS.out.at hok hlt)
      obtain ⟨g2, o2, rfl, hg2, d0, d1, d2, d3⟩ := h2.pkt rfl hsk
      clear h1 h2 h3 hok hsk
      go_wp2_with fail
      go_quiet (fail)
      go_wp2_with fail
      go_roundw
      case rel => exact ⟨k + 1, by omega, rfl, by go_num, Lib.hid ((HT.out.alloc _).drewN _)⟩
      case measure => simp [intOf]; omega
    · obtain rfl : k = ρ.sent.length := by omega
      clear h1 h2 h3 hok
      go_wp2_with fail
      go_ret
      exact ⟨rfl, HT.out⟩
end Go.Proofs.Ythnokfchebmjiaa
