/- Rounds of a half: what an answer makes of it, in plain Lean. Conditions: none. -/
import Derived.Test.YtmidlielcioinaaS
import Derived.Test.YtmidlielcioinaaI
namespace Go.Proofs.Ytmidlielcioinaa
open Go.RowKit

theorem span_nx {σ τ : Snd} {off len : Nat} {f : Bool} (h : Nx σ off len f τ) : spanR τ off (len : Int) = if 0 < len then (off, off + len - 1, true) else (0, 0, false) := by
  have hf := h.fit
  unfold spanR
  by_cases h0 : 0 < len
  · rw [if_pos h0, if_neg (by omega)]
    have : min ((len : Int)).toNat (τ.top - off) = len := by omega
    rw [this]
  · rw [if_neg h0, if_pos (.inl (by omega))]
theorem ackA_mem {b : List Nat} {σ τ : Snd} {off len : Nat} {f : Bool} (_ : Wh b σ) (hn : Nx σ off len f τ) (x : Nat) : inR x (ackA τ off (len : Int)) ↔ inR x σ.acked ∨ (off ≤ x ∧ x < off + len) := by
  have hmx : mx = 4611686018427387903 := rfl
  have hs := span_nx hn
  have hok := hn.ok
  have h1 := hok.top
  have h2 := hok.len
  have h3 := hn.fit
  unfold ackA
  rw [hs]
  by_cases h0 : 0 < len
  · rw [if_pos h0, if_pos rfl, spOp_mem hok.acked _ _ _ (by show off + len - 1 ≤ mx; omega), hn.acked]
    show _ ∨ (off ≤ x ∧ x ≤ off + len - 1) ↔ _
    constructor
    · rintro (h | h)
      · exact .inl h
      · exact .inr (by omega)
    · rintro (h | h)
      · exact .inl h
      · exact .inr (by omega)
  · rw [if_neg h0, if_neg (by decide), hn.acked]
    constructor
    · exact .inl
    · rintro (h | h)
      · exact h
      · omega
theorem ackL_mem {b : List Nat} {σ τ : Snd} {off len : Nat} {f : Bool} (h : Wh b σ) (hn : Nx σ off len f τ) (x : Nat) : inR x (ackL τ off (len : Int)) ↔ inR x σ.lost ∧ ¬ (off ≤ x ∧ x < off + len) := by
  have hs := span_nx hn
  have hok := (ack_ok hn.ok off (len : Int)).acked
  have hA := ackA_mem h hn x
  unfold ackL
  rw [hs]
  by_cases h0 : 0 < len
  · rw [if_pos h0, if_pos rfl, wo_mem x _ _ 0 0 hn.ok.lost hok, hA, hn.lost]
    constructor
    · exact fun h => h.1
    · exact fun g => ⟨g, fun g2 => g2.elim (h.dis x g.1) g.2⟩
  · rw [if_neg h0, if_neg (by decide), hn.lost]
theorem ackS_eq {σ τ : Snd} {off len : Nat} {f : Bool} (hn : Nx σ off len f τ) : ackS τ off (len : Int) f = { τ with lost := ackL τ off (len : Int), acked := ackA τ off (len : Int), fin := if f then 3 else σ.fin } := by
  have hf := hn.fin
  unfold ackS
  cases f with
  | true =>
    simp only [if_true] at hf
    rw [if_pos (by rw [hf]; rfl)]
    rfl
  | false =>
    simp only [Bool.false_eq_true, if_false] at hf
    rw [if_neg (by simp)]
    simp only [Bool.false_eq_true, if_false, ← hf]
theorem lostL_mem {b : List Nat} {σ τ : Snd} {off len : Nat} {f : Bool} (h : Wh b σ) (hn : Nx σ off len f τ) (x : Nat) : inR x (lostL τ off (len : Int)) ↔ inR x σ.lost ∨ (off ≤ x ∧ x < off + len) := by
  have hmx : mx = 4611686018427387903 := rfl
  have hs := span_nx hn
  have hok := hn.ok
  have h1 := hok.top
  have h2 := hok.len
  have h3 := hn.fit
  unfold lostL
  rw [hs]
  by_cases h0 : 0 < len
  · have hV := spOp_V (V.nil 0) off (off + len - 1)
    have hj := join_ok (t := τ.top) τ.lost (spOp [] 0 off (off + len - 1)) hV (spOp_lt (V.nil 0) _ _ _ (by omega) (by simp) (by omega)) hok.lost hok.lt
    rw [if_pos h0, if_pos rfl, wo_mem x _ _ 0 0 hj.1 hok.acked, join_mem x _ _ hV hok.lost, spOp_mem (V.nil 0) _ _ _ (by omega), hn.lost, hn.acked]
    have hx : ¬ inR x [] := inR_nil x
    constructor
    · rintro ⟨(g | g) | g, _⟩
      · exact absurd g hx
      · exact .inr (by omega)
      · exact .inl g.1
    · rintro (g | g)
      · by_cases hin : off ≤ x ∧ x < off + len
        · exact ⟨.inl (.inr (by omega)), hn.new x hin.1 hin.2⟩
        · exact ⟨.inr ⟨g, hin⟩, h.dis x g⟩
      · exact ⟨.inl (.inr (by omega)), hn.new x g.1 g.2⟩
  · rw [if_neg h0, if_neg (by decide), hn.lost]
    constructor
    · exact fun g => .inl g.1
    · rintro (g | g)
      · exact ⟨g, by omega⟩
      · omega
theorem lostS_eq {σ τ : Snd} {off len : Nat} {f : Bool} (hn : Nx σ off len f τ) : lostS τ off (len : Int) f = { τ with lost := lostL τ off (len : Int), fin := if f then 2 else σ.fin } := by
  have hf := hn.fin
  unfold lostS
  cases f with
  | true =>
    simp only [if_true] at hf
    rw [if_pos (by rw [hf]; rfl)]
    rfl
  | false =>
    simp only [Bool.false_eq_true, if_false] at hf
    rw [if_neg (by simp)]
    simp only [Bool.false_eq_true, if_false, ← hf]
theorem ack_wh {b : List Nat} {σ τ : Snd} {off len : Nat} {f : Bool} (h : Wh b σ) (hn : Nx σ off len f τ) : Wh b (ackS τ off (len : Int) f) := by
  have ho := ack_ok hn.ok off (len : Int)
  have hf := h.fin
  rw [ackS_eq hn]
  refine ⟨hn.b.trans h.b, hn.ended.trans h.ended, hn.reset.trans h.reset, hn.max.trans h.max, ⟨ho.lost, ho.acked, ho.lt, ho.at', ho.top, ho.tm, ho.max, ho.len, ?_⟩, fun x hx hx2 => ?_, fun x hx => ?_, ?_⟩
  · show (if f then 3 else σ.fin) ≤ 3
    cases f <;> simp <;> omega
  · have g1 := (ackL_mem h hn x).1 hx
    have g2 := (ackA_mem h hn x).1 hx2
    exact g2.elim (h.dis x g1.1) g1.2
  · show inR x (ackL τ off (len : Int)) ∨ inR x (ackA τ off (len : Int))
    rw [ackL_mem h hn x, ackA_mem h hn x]
    rcases (hn.top x).1 hx with g | g
    · by_cases hin : off ≤ x ∧ x < off + len
      · exact .inr (.inr hin)
      · exact (h.all x g).elim (fun g => .inl ⟨g, hin⟩) (fun g => .inr (.inl g))
    · exact .inr (.inr g)
  · show (if f then 3 else σ.fin) = 0 ∨ (if f then 3 else σ.fin) = 2 ∨ (if f then 3 else σ.fin) = 3
    cases f <;> simp <;> omega
theorem lost_wh {b : List Nat} {σ τ : Snd} {off len : Nat} {f : Bool} (h : Wh b σ) (hn : Nx σ off len f τ) : Wh b (lostS τ off (len : Int) f) := by
  have ho := lostL_ok hn.ok off (len : Int)
  have hf := h.fin
  rw [lostS_eq hn]
  refine ⟨hn.b.trans h.b, hn.ended.trans h.ended, hn.reset.trans h.reset, hn.max.trans h.max, ⟨ho.lost, ho.acked, ho.lt, ho.at', ho.top, ho.tm, ho.max, ho.len, ?_⟩, fun x hx hx2 => ?_, fun x hx => ?_, ?_⟩
  · show (if f then 2 else σ.fin) ≤ 3
    cases f <;> simp <;> omega
  · have g1 := (lostL_mem h hn x).1 hx
    have g2 : inR x σ.acked := by rw [← hn.acked]; exact hx2
    exact g1.elim (fun g => h.dis x g g2) (fun g => hn.new x g.1 g.2 g2)
  · show inR x (lostL τ off (len : Int)) ∨ inR x τ.acked
    rw [lostL_mem h hn x, hn.acked]
    rcases (hn.top x).1 hx with g | g
    · exact (h.all x g).elim (fun g => .inl (.inl g)) .inr
    · exact .inl (.inr g)
  · show (if f then 2 else σ.fin) = 0 ∨ (if f then 2 else σ.fin) = 2 ∨ (if f then 2 else σ.fin) = 3
    cases f <;> simp <;> omega
end Go.Proofs.Ytmidlielcioinaa
