/- A law's own half beside a block of the law's own. Conditions: none. -/
import Derived.Test.YtmidlielcioinaaV
namespace Go.Proofs.Ytmidlielcioinaa
open Go.RowKit

/-- As AtSnd, and block g (made by the law) holds cs and lies beside all. -/
def At2 (w wk : World) (p : Nat) (σ : Snd) (D : List (Value × List Nat)) (g : Nat) (cs : List Value) : Prop :=
  ∃ F, IsSnd wk p F σ ∧ (∀ x ∈ F, w.heap.size ≤ x) ∧ Touch [] w wk ∧ (∀ d ∈ D, Rd wk 1 d.1 d.2.length (bs d.2) ∧ (0 < d.2.length → ∀ x ∈ own d.1, x ∉ F ∧ x ≠ g ∧ x < wk.heap.size)) ∧ IsBlk wk g cs 4 ∧ g ∉ F ∧ w.heap.size ≤ g
section
variable {w wk w' : World} {p : Nat} {σ τ : Snd} {D : List (Value × List Nat)} {g : Nat} {cs cs' : List Value}
theorem At2.of (h : AtSnd w wk p σ []) (hB : ∀ F, IsSnd wk p F σ → IsBlk w' g cs 4 ∧ g ∉ F) (hT : Touch [] wk w') (hg : w.heap.size ≤ g) : At2 w w' p σ [] g cs := by
  obtain ⟨F, h1, h2, h3, _⟩ := h
  exact ⟨F, h1.keep hT, h2, h3.trans hT (by simp), fun d hd => by simp at hd, (hB F h1).1, (hB F h1).2, hg⟩
theorem At2.touch (h : At2 w wk p σ D g cs) : Touch [] w wk := by
  obtain ⟨F, _, _, h3, _⟩ := h
  exact h3
theorem At2.blk (h : At2 w wk p σ D g cs) : IsBlk wk g cs 4 := by
  obtain ⟨F, _, _, _, _, h5, _⟩ := h
  exact h5
theorem At2.keep (h : At2 w wk p σ D g cs) (hk : Touch [] wk w') : At2 w w' p σ D g cs := by
  obtain ⟨F, h1, h2, h3, h4, h5, h6, h7⟩ := h
  exact ⟨F, h1.keep hk, h2, h3.trans hk (by simp), fun d hd => ⟨(h4 d hd).1.touch hk (by simp), fun h0 x hx => let ⟨a, b, c⟩ := (h4 d hd).2 h0 x hx; ⟨a, b, Nat.lt_of_lt_of_le c hk.size⟩⟩, h5.touch hk (by simp), h6, h7⟩
theorem At2.drop (h : At2 w wk p σ D g cs) : At2 w wk p σ [] g cs := by
  obtain ⟨F, h1, h2, h3, h4, h5⟩ := h
  exact ⟨F, h1, h2, h3, fun d hd => by simp at hd, h5⟩
theorem At2.step {F : List Nat} (h2 : ∀ x ∈ F, w.heap.size ≤ x) (h3 : Touch [] w wk) (h4 : ∀ d ∈ D, Rd wk 1 d.1 d.2.length (bs d.2) ∧ (0 < d.2.length → ∀ x ∈ own d.1, x ∉ F ∧ x ≠ g ∧ x < wk.heap.size)) (h5 : IsBlk wk g cs 4) (h6 : g ∉ F) (h7 : w.heap.size ≤ g) (h : Step wk p F τ w') : At2 w w' p τ D g cs := by
  obtain ⟨F', k1, k2, k3⟩ := h
  have hs := h3.size
  have hl := h5.lt
  refine ⟨F', k1, fun x hx => (k3 x hx).elim (h2 x) (fun h => by omega), h3.trans k2 (fun x hx => .inr (h2 x hx)), fun d hd => ⟨rd_touch (h4 d hd).1 k2 (fun h0 x hx => ((h4 d hd).2 h0 x hx).1), fun h0 x hx => ?_⟩, h5.touch k2 h6, fun hm => (k3 g hm).elim h6 (fun h => by omega), h7⟩
  obtain ⟨a, b, c⟩ := (h4 d hd).2 h0 x hx
  exact ⟨fun hm => (k3 x hm).elim a (fun h => by omega), b, Nat.lt_of_lt_of_le c k2.size⟩
/-- The law's own block is turned. -/
theorem At2.put (h : At2 w wk p σ D g cs) (hk : Touch [g] wk w') (hB : IsBlk w' g cs' 4) : At2 w w' p σ D g cs' := by
  obtain ⟨F, h1, h2, h3, h4, h5, h6, h7⟩ := h
  exact ⟨F, h1.touch hk (fun x hx hm => by simp at hm; subst hm; exact h6 hx), h2, h3.trans hk (fun x hx => .inr (by simp at hx; omega)), fun d hd => ⟨rd_touch (h4 d hd).1 hk (fun h0 x hx hm => by simp at hm; exact ((h4 d hd).2 h0 x hx).2.1 hm), fun h0 x hx => let ⟨a, b, c⟩ := (h4 d hd).2 h0 x hx; ⟨a, b, Nat.lt_of_lt_of_le c hk.size⟩⟩, hB, h6, h7⟩
theorem at2_next (h : At2 w wk p σ D g cs) (n : Int) (hn : n ≤ 9223372036854775807) :
    Calls Try.prog 11 #[.pointer (some ⟨p, 0, none⟩), .int .i64 n] wk fun e w' => ∃ v, e = .returned (.tuple #[.int .u64 ((nextS σ n.toNat).1.1 : Int), v, .bool (nextS σ n.toNat).1.2.2.1, .bool (nextS σ n.toNat).1.2.2.2]) ∧ Rd w' 1 v (nextS σ n.toNat).1.2.1.length (bs (nextS σ n.toNat).1.2.1) ∧ At2 w w' p (nextS σ n.toNat).2 ((v, (nextS σ n.toNat).1.2.1) :: D) g cs := by
  obtain ⟨F, h1, h2, h3, h4, h5, h6, h7⟩ := h
  refine (next_any wk p F σ n h1 hn).mono ?_
  rintro e w' ⟨v, rfl, k1, ⟨F', g1, g2, g3, g4⟩, k3⟩
  have hs := h3.size
  have hl := h5.lt
  refine ⟨v, rfl, k1, F', g1, fun x hx => (g3 x hx).elim (h2 x) (fun h => by omega), h3.trans g2 (fun x hx => .inr (h2 x hx)), fun d hd => ?_, h5.touch g2 h6, fun hm => (g3 g hm).elim h6 (fun h => by omega), h7⟩
  rcases List.mem_cons.1 hd with rfl | hd
  · exact ⟨k1, fun h0 x hx => ⟨g4 x hx, by have := k3 x hx; omega, rd_lt k1 h0 x hx⟩⟩
  · refine ⟨rd_touch (h4 d hd).1 g2 (fun h0 x hx => ((h4 d hd).2 h0 x hx).1), fun h0 x hx => ?_⟩
    obtain ⟨a, b, c⟩ := (h4 d hd).2 h0 x hx
    exact ⟨fun hm => (g3 x hm).elim a (fun h => by omega), b, Nat.lt_of_lt_of_le c g2.size⟩
theorem at2_lost (h : At2 w wk p σ D g cs) (off : Nat) (n : Int) (fin : Bool) (hn : n ≤ 9223372036854775807) (ho : off < 18446744073709551616) :
    Calls Try.prog 12 #[.pointer (some ⟨p, 0, none⟩), .int .u64 (off : Int), .int .i64 n, .bool fin] wk fun e w' => e = .returned (.tuple #[]) ∧ At2 w w' p (lostS σ off n fin) D g cs := by
  obtain ⟨F, h1, h2, h3, h4, h5, h6, h7⟩ := h
  refine (lost_any wk p F σ off n fin h1 hn ho).mono ?_
  rintro e w' ⟨rfl, k⟩
  exact ⟨rfl, At2.step h2 h3 h4 h5 h6 h7 k⟩
theorem at2_acked (h : At2 w wk p σ D g cs) (off : Nat) (n : Int) (fin : Bool) (hn : n ≤ 9223372036854775807) (ho : off < 18446744073709551616) :
    Calls Try.prog 13 #[.pointer (some ⟨p, 0, none⟩), .int .u64 (off : Int), .int .i64 n, .bool fin] wk fun e w' => e = .returned (.tuple #[]) ∧ At2 w w' p (ackS σ off n fin) D g cs := by
  obtain ⟨F, h1, h2, h3, h4, h5, h6, h7⟩ := h
  refine (acked_any wk p F σ off n fin h1 hn ho).mono ?_
  rintro e w' ⟨rfl, k⟩
  exact ⟨rfl, At2.step h2 h3 h4 h5 h6 h7 k⟩
theorem at2_state (h : At2 w wk p σ D g cs) : Calls Try.prog 14 #[.pointer (some ⟨p, 0, none⟩)] wk fun e w' => e = .returned (stateV σ) ∧ At2 w w' p σ D g cs := by
  have hh := h
  obtain ⟨F, h1, h2, h3, h4, h5, h6, h7⟩ := h
  refine (state_any wk p F σ h1).mono ?_
  rintro e w' ⟨rfl, k⟩
  exact ⟨rfl, hh.keep k⟩
end
end Go.Proofs.Ytmidlielcioinaa
