/- How many rounds a half takes, in plain Lean. Conditions: none. -/
import Derived.Test.YtmidlielcioinaaU
namespace Go.Proofs.Ytmidlielcioinaa
open Go.RowKit

theorem countP_lt {α : Type} {p q : α → Bool} : ∀ (l : List α), (∀ x ∈ l, q x = true → p x = true) → (∃ x ∈ l, p x = true ∧ q x = false) → l.countP q < l.countP p
  | [], _, ⟨_, h, _⟩ => by cases h
  | a :: l, h, ⟨x, hx, hp, hq⟩ => by
    have hle : l.countP q ≤ l.countP p := List.countP_mono_left fun y hy => h y (List.mem_cons_of_mem _ hy)
    rcases List.mem_cons.1 hx with rfl | hx
    · rw [List.countP_cons_of_pos hp, List.countP_cons_of_neg (by rw [hq]; decide)]
      omega
    · have ih := countP_lt l (fun y hy => h y (List.mem_cons_of_mem _ hy)) ⟨x, hx, hp, hq⟩
      have ha := h a (by simp)
      rw [List.countP_cons, List.countP_cons]
      cases hqa : q a with
      | true => rw [ha hqa]; simp; omega
      | false => cases p a <;> simp <;> omega

open Classical in
/-- What is still to come: numbers that are not acknowledged, and the end. -/
noncomputable def un (b : List Nat) (σ : Snd) : Nat := (List.range b.length).countP (fun x => decide (¬ inR x σ.acked)) + (if σ.fin = 3 then 0 else 1)
theorem un_le (b : List Nat) (σ : Snd) : un b σ ≤ b.length + 1 := by
  classical
  unfold un
  have := List.countP_le_length (p := fun x => decide (¬ inR x σ.acked)) (l := List.range b.length)
  rw [List.length_range] at this
  split <;> omega
theorem un_ack {b : List Nat} {σ τ : Snd} {off len : Nat} {f : Bool} (h : Wh b σ) (hn : Nx σ off len f τ) : un b (ackS τ off (len : Int) f) + 1 ≤ un b σ := by
  classical
  have hm := ackA_mem h hn
  have hs := hn.some
  have h3 := hn.not3
  have hfit := hn.fit
  have htop := hn.ok.top
  rw [hn.b, h.b] at htop
  rw [ackS_eq hn]
  unfold un
  show List.countP (fun x => decide (¬ inR x (ackA τ off (len : Int)))) (List.range b.length) + (if (if f then 3 else σ.fin) = 3 then 0 else 1) + 1 ≤ _
  have hq : ∀ x ∈ List.range b.length, decide (¬ inR x (ackA τ off (len : Int))) = true → decide (¬ inR x σ.acked) = true := fun x _ g => by
    have g := of_decide_eq_true g
    exact decide_eq_true fun g2 => g ((hm x).2 (.inl g2))
  by_cases h0 : 0 < len
  · have hlt := countP_lt (List.range b.length) hq ⟨off, List.mem_range.2 (by omega), decide_eq_true (hn.new off (Nat.le_refl _) (by omega)), decide_eq_false fun g => g ((hm off).2 (.inr ⟨Nat.le_refl _, by omega⟩))⟩
    cases f with
    | true =>
      have := h3 rfl
      simp only [if_true, if_neg this]
      omega
    | false =>
      simp only [Bool.false_eq_true, if_false]
      omega
  · have hf : f = true := hs.resolve_left h0
    have hle := List.countP_mono_left hq
    rw [if_neg (h3 hf), hf]
    simp only [if_true]
    omega
theorem un_lost {b : List Nat} {σ τ : Snd} {off len : Nat} {f : Bool} (hn : Nx σ off len f τ) : un b (lostS τ off (len : Int) f) = un b σ := by
  rw [lostS_eq hn]
  unfold un
  rw [show ({ τ with lost := lostL τ off (len : Int), fin := if f then 2 else σ.fin } : Snd).acked = σ.acked from hn.acked]
  congr 1
  show (if (if f then 2 else σ.fin) = 3 then 0 else 1) = _
  cases f with
  | true => rw [if_neg (hn.not3 rfl)]; rfl
  | false => rfl
theorem wh_new (b : List Nat) (hb : b.length ≤ 200) : Wh b (writeS (snd0 1000) b true) := by
  have e : writeS (snd0 1000) b true = ⟨b, true, 0, 0, [], [], 1000, false⟩ := rfl
  rw [e]
  exact ⟨rfl, rfl, rfl, rfl, ⟨V.nil 0, V.nil 0, by simp, by simp, by simp, by simp, by simp, by show b.length ≤ 50000; omega, by simp⟩, by simp [inR], by simp, .inl rfl⟩
/-- All came. -/
theorem wh_done {b : List Nat} {σ : Snd} (h : Wh b σ) (hl : σ.lost = []) (ht : σ.top = b.length) (hf : σ.fin = 3) : (∀ x, x < b.length → inR x σ.acked) ∧ stateV σ = vRecvd := by
  have hall : ∀ x, x < b.length → inR x σ.acked := fun x hx => by
    have := h.all x (by omega)
    rw [hl] at this
    exact this.resolve_left (inR_nil x)
  refine ⟨hall, ?_⟩
  have hok := h.ok
  have hc : cnt σ.acked = b.length := by
    by_cases h0 : b.length = 0
    · cases ha : σ.acked with
      | nil => rw [h0]; rfl
      | cons y L =>
        have := hok.at' y (by rw [ha]; simp)
        omega
    · have hb := hok.top
      have hlen := hok.len
      have hmx : mx = 4611686018427387903 := rfl
      rw [h.b] at hb hlen
      have hV : V [(0, b.length - 1)] 0 := ⟨List.pairwise_singleton _ _, fun y hy => by simp at hy; subst hy; exact ⟨Nat.zero_le _, Nat.zero_le _, by show b.length - 1 ≤ mx; omega⟩⟩
      have := V.ext hok.acked hV (fun x => by
        constructor
        · rintro ⟨y, hy, _, g2⟩
          have := hok.at' y hy
          exact ⟨(0, b.length - 1), by simp, Nat.zero_le _, by show x ≤ b.length - 1; omega⟩
        · rintro ⟨y, hy, g1, g2⟩
          simp at hy
          subst hy
          exact hall x (by show x < b.length; simp at g2; omega))
      rw [this]
      exact cnt_all _ (by omega)
  unfold stateV doneB
  rw [h.reset, hc, h.b, hf]
  simp
/-- The half that answers every chunk: no round beyond the last can hand anything out. -/
theorem un_pos {b : List Nat} {σ τ : Snd} {off len : Nat} {f : Bool} (h : Wh b σ) (hn : Nx σ off len f τ) : 0 < un b σ := by
  have := un_ack h hn
  omega
theorem ack_fin {σ τ : Snd} {off len : Nat} {f : Bool} (hn : Nx σ off len f τ) : (ackS τ off (len : Int) f).fin = if f then 3 else σ.fin := by rw [ackS_eq hn]
theorem lost_fin {σ τ : Snd} {off len : Nat} {f : Bool} (hn : Nx σ off len f τ) : (lostS τ off (len : Int) f).fin = if f then 2 else σ.fin := by rw [lostS_eq hn]
theorem lost_acked {σ τ : Snd} {off len : Nat} {f : Bool} (hn : Nx σ off len f τ) : (lostS τ off (len : Int) f).acked = σ.acked := by rw [lostS_eq hn]; exact hn.acked
theorem ack_acked {b : List Nat} {σ τ : Snd} {off len : Nat} {f : Bool} (h : Wh b σ) (hn : Nx σ off len f τ) (x : Nat) : inR x (ackS τ off (len : Int) f).acked ↔ inR x σ.acked ∨ (off ≤ x ∧ x < off + len) := by rw [ackS_eq hn]; exact ackA_mem h hn x
end Go.Proofs.Ytmidlielcioinaa
