/- Rounds of a half whose chunks are answered at once, in plain Lean. Conditions: none. -/
import Derived.Test.YtmidlielcioinaaQ
namespace Go.Proofs.Ytmidlielcioinaa
open Go.RowKit

/-- Between two rounds. -/
structure Wh (b : List Nat) (σ : Snd) : Prop where
  b : σ.b = b
  ended : σ.ended = true
  reset : σ.reset = false
  max : σ.max = 1000
  ok : σ.Ok
  dis : ∀ x, inR x σ.lost → ¬ inR x σ.acked
  all : ∀ x, x < σ.top → inR x σ.lost ∨ inR x σ.acked
  fin : σ.fin = 0 ∨ σ.fin = 2 ∨ σ.fin = 3
/-- What a chunk leaves. -/
structure Nx (σ : Snd) (off len : Nat) (f : Bool) (τ : Snd) : Prop where
  b : τ.b = σ.b
  ended : τ.ended = σ.ended
  reset : τ.reset = σ.reset
  max : τ.max = σ.max
  acked : τ.acked = σ.acked
  ok : τ.Ok
  lost : ∀ x, inR x τ.lost ↔ inR x σ.lost ∧ ¬ (off ≤ x ∧ x < off + len)
  top : ∀ x, x < τ.top ↔ x < σ.top ∨ (off ≤ x ∧ x < off + len)
  new : ∀ x, off ≤ x → x < off + len → ¬ inR x σ.acked
  fin : τ.fin = if f then 1 else σ.fin
  some : 0 < len ∨ f = true
  not3 : f = true → σ.fin ≠ 3
  fit : off + len ≤ τ.top

theorem popL_mem {r : Rng} {rest : List Rng} (hV : V (r :: rest) 0) (m : Nat) (hm : 0 < m) (hm2 : m ≤ r.2 - r.1 + 1) (x : Nat) : inR x (popL r rest m) ↔ inR x (r :: rest) ∧ ¬ (r.1 ≤ x ∧ x < r.1 + m) := by
  have h1 := hV.2 r (by simp)
  have hr : inR x rest → r.2 + 1 < x := fun ⟨y, hy, e1, e2⟩ => by have := hV.head y hy; omega
  unfold popL
  split
  · rw [inR_cons, inR_cons]
    constructor
    · rintro (h | h)
      · exact ⟨.inl ⟨by simp at h; omega, by simp at h; omega⟩, by simp at h; omega⟩
      · exact ⟨.inr h, by have := hr h; omega⟩
    · rintro ⟨h | h, h2⟩
      · exact .inl ⟨by show r.1 + m ≤ x; omega, h.2⟩
      · exact .inr h
  · rw [inR_cons]
    constructor
    · exact fun h => ⟨.inr h, by have := hr h; omega⟩
    · rintro ⟨h | h, h2⟩
      · omega
      · exact h

theorem chunkS_nx {b : List Nat} {σ τ : Snd} {off len : Nat} (h : Wh b σ) (e1 : τ.b = σ.b) (e2 : τ.ended = σ.ended) (e3 : τ.reset = σ.reset) (e4 : τ.max = σ.max) (e5 : τ.acked = σ.acked) (e6 : τ.fin = σ.fin) (ok : τ.Ok)
    (h1 : ∀ x, inR x τ.lost ↔ inR x σ.lost ∧ ¬ (off ≤ x ∧ x < off + len)) (h2 : ∀ x, x < τ.top ↔ x < σ.top ∨ (off ≤ x ∧ x < off + len)) (h3 : ∀ x, off ≤ x → x < off + len → ¬ inR x σ.acked) (h4 : 0 < len ∨ chunkF τ off len = true) (h5 : off + len ≤ τ.top) : Nx σ off len (chunkF τ off len) (chunkS τ off len) := by
  have hf := h.fin
  unfold chunkS
  cases hc : chunkF τ off len with
  | true =>
    rw [hc] at h4
    refine ⟨e1, e2, e3, e4, e5, ⟨ok.lost, ok.acked, ok.lt, ok.at', ok.top, ok.tm, ok.max, ok.len, by show 1 ≤ 3; decide⟩, h1, h2, h3, rfl, h4, fun _ h0 => ?_, h5⟩
    unfold chunkF at hc
    rw [e6, h0] at hc
    simp at hc
  | false =>
    rw [hc] at h4
    exact ⟨e1, e2, e3, e4, e5, ok, h1, h2, h3, e6, h4, (fun h0 => by cases h0), h5⟩

theorem next_wh {b : List Nat} {σ : Snd} (h : Wh b σ) (hb : b.length ≤ 200) (n : Nat) (hn : 0 < n) :
    (nextS σ n = ((0, [], false, false), σ) ∧ σ.lost = [] ∧ σ.top = b.length ∧ σ.fin = 3) ∨ ∃ off len f τ, nextS σ n = ((off, (b.drop off).take len, f, true), τ) ∧ Nx σ off len f τ := by
  have hok := h.ok
  have hto := hok.top
  rw [h.b] at hto
  cases hl : σ.lost with
  | cons r rest =>
    right
    have hV := hok.lost
    rw [hl] at hV
    have h1 := hV.2 r (by simp)
    have hlt := hok.lt r (by rw [hl]; simp)
    obtain ⟨m, hm⟩ : ∃ m, m = min n (r.2 - r.1 + 1) := ⟨_, rfl⟩
    have hpo := pop_ok hok hl m
    refine ⟨r.1, m, chunkF { σ with lost := popL r rest m } r.1 m, chunkS { σ with lost := popL r rest m } r.1 m, ?_, chunkS_nx h rfl rfl rfl rfl rfl rfl hpo ?_ ?_ ?_ ?_ ?_⟩
    · unfold nextS
      refine (if_neg (by rw [h.reset]; decide)).trans ?_
      rw [hl]
      dsimp only
      rw [if_pos hn, ← hm]
      simp only [bytesAt, h.b]
    · intro x
      show inR x (popL r rest m) ↔ _
      rw [hl]
      exact popL_mem hV m (by omega) (by omega) x
    · intro x
      show x < σ.top ↔ _
      omega
    · intro x g1 g2
      exact h.dis x (by rw [hl]; exact ⟨r, by simp, g1, by omega⟩)
    · left; omega
    · show r.1 + m ≤ σ.top
      omega
  | nil =>
    have hr1 := h.reset
    obtain ⟨m, hm⟩ : ∃ m, m = min n (min σ.b.length σ.max - σ.top) := ⟨_, rfl⟩
    have hm0 := hm
    rw [h.b, h.max] at hm0
    by_cases hm1 : 0 < m
    · right
      refine ⟨σ.top, m, chunkF { σ with top := σ.top + m } σ.top m, chunkS { σ with top := σ.top + m } σ.top m, ?_, chunkS_nx h rfl rfl rfl rfl rfl rfl (top_ok hok m (by rw [h.b, h.max]; omega)) ?_ ?_ ?_ ?_ ?_⟩
      · unfold nextS
        refine (if_neg (by rw [hr1]; decide)).trans ?_
        rw [hl]
        dsimp only
        rw [← hm, if_pos hm1]
        simp only [bytesAt, h.b]
      · intro x
        show inR x σ.lost ↔ _
        rw [hl]
        simp [inR]
      · intro x
        show x < σ.top + m ↔ _
        omega
      · intro x g1 _ hx
        obtain ⟨y, hy, _, e2⟩ := hx
        have := hok.at' y hy
        omega
      · left; omega
      · exact Nat.le_refl _
    · have htop : σ.top = b.length := by omega
      cases hc : chunkF σ σ.top 0 with
      | true =>
        right
        refine ⟨σ.top, 0, chunkF σ σ.top 0, chunkS σ σ.top 0, ?_, chunkS_nx h rfl rfl rfl rfl rfl rfl hok ?_ ?_ ?_ ?_ ?_⟩
        · unfold nextS
          refine (if_neg (by rw [hr1]; decide)).trans ?_
          rw [hl]
          dsimp only
          rw [← hm, if_neg hm1, hc]
          simp
        · intro x; constructor
          · exact fun h => ⟨h, by omega⟩
          · exact fun h => h.1
        · intro x; omega
        · intro x _ _; omega
        · exact .inr hc
        · omega
      | false =>
        left
        refine ⟨?_, rfl, htop, ?_⟩
        · unfold nextS
          refine (if_neg (by rw [hr1]; decide)).trans ?_
          rw [hl]
          dsimp only
          rw [← hm, if_neg hm1, hc]
          simp
        · have hb2 := h.b
          unfold chunkF at hc
          rw [h.ended, h.b, htop] at hc
          rcases h.fin with e | e | e
          · rw [e] at hc; simp at hc
          · rw [e] at hc; simp at hc
          · exact e
end Go.Proofs.Ytmidlielcioinaa
