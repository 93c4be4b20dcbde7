/- What HalfCredit makes of its half, in plain Lean. Conditions: none. -/
import Derived.Test.YtmidlielcioinaaN
namespace Go.Proofs.Ytmidlielcioinaa
open Go.RowKit

def cs (b M t : Nat) (f : Bool) : Snd := ⟨z0 b, true, if f then 1 else 0, t, [], [], M, false⟩
theorem cs_new (a b : Nat) (ha : a < 256) : writeS (snd0 a) (z0 b) true = cs b a 0 false := by
  have : min a mx = a := by unfold mx; omega
  simp [writeS, snd0, cs, this]
/-- What is next: there is something left. -/
theorem cs_some (b M t : Nat) (f : Bool) (h : t < min b M) (hf : f = false) : nextS (cs b M t f) 10 = ((t, z0 (min 10 (min b M - t)), decide (t + min 10 (min b M - t) = b), true), cs b M (t + min 10 (min b M - t)) (decide (t + min 10 (min b M - t) = b))) := by
  subst hf
  obtain ⟨m, hm⟩ : ∃ m, m = min 10 (min b M - t) := ⟨_, rfl⟩
  have h0 : 0 < m := by omega
  have hb : bytesAt (cs b M t false) t m = z0 m := z0_part b t m (by omega)
  have hc : chunkF { cs b M t false with top := t + m } t m = decide (t + m = b) := by
    unfold chunkF cs
    rw [z0_len]
    by_cases e : t + m = b
    · have : (t : Int) + (m : Int) = (b : Int) := by omega
      simp [e, this]
    · have : ¬ (t : Int) + (m : Int) = (b : Int) := by omega
      simp [e, this]
  unfold nextS
  rw [← hm]
  simp only [cs, z0_len, ← hm, if_pos h0] at hb hc ⊢
  simp only [hb, hc, chunkS]
  by_cases e : t + m = b <;> simp [e]
theorem cs_end (b M t : Nat) (h : min b M - t = 0) (ht : t = b) : nextS (cs b M t false) 10 = ((t, [], true, true), cs b M t true) := by
  subst ht
  have hc : chunkF ⟨z0 t, true, 0, t, [], [], M, false⟩ t 0 = true := by
    unfold chunkF
    rw [z0_len]
    simp
  unfold nextS
  simp only [cs, z0_len, h]
  simp [hc, chunkS]
theorem cs_none (b M t : Nat) (f : Bool) (h : min b M - t = 0) (ht : f = true ∨ t ≠ b) : nextS (cs b M t f) 10 = ((0, [], false, false), cs b M t f) := by
  have hc : chunkF (cs b M t f) t 0 = false := by
    unfold chunkF cs
    rw [z0_len]
    rcases ht with rfl | h
    · simp
    · have : ¬ (t : Int) = (b : Int) := by omega
      simp [this]
  unfold nextS
  simp only [cs, z0_len, h] at hc ⊢
  simp [hc]
theorem cs_grow (b M t c : Nat) (f : Bool) (hc : c < 256) : { cs b M t f with max := max (cs b M t f).max (min c mx) } = cs b (max M c) t f := by
  have : min c mx = c := by unfold mx; omega
  simp [cs, this]
theorem at_grow {w wk : World} {p : Nat} {σ : Snd} {D : List (Value × List Nat)} (h : AtSnd w wk p σ D) (n : Nat) :
    Calls Try.prog 18 #[.pointer (some ⟨p, 0, none⟩), .int .u64 (n : Int)] wk fun e w' => e = .returned (.tuple #[]) ∧ AtSnd w w' p { σ with max := max σ.max (min n mx) } D := by
  obtain ⟨F, h1, h2, h3, h4⟩ := h
  refine (grow_any wk p F σ n h1).mono ?_
  rintro e w' ⟨rfl, k⟩
  exact ⟨rfl, AtSnd.step h2 h3 h4 k⟩
end Go.Proofs.Ytmidlielcioinaa
