/- The plain law of the two sides. Conditions: none. -/
import Derived.Test.YtgmfbgclgjchpaaH
namespace Go.Proofs.Ytgmfbgclgjchpaa
open Go.RowKit Go.Maps Go.WideMaps

def kindAt (n : Nat) : Int := [1, 0, 1, 0, 3, 8, 2, 9].getD n 9
def pairsL : List (Int × Int) := [(0, 0), (1, 1), (2, 3), (3, 2), (4, 4)]
def Pair (a b : Int) : Prop := (a, b) ∈ pairsL
theorem Pair.bd {a b : Int} (h : Pair a b) : (0 ≤ a ∧ a ≤ 4) ∧ 0 ≤ b ∧ b ≤ 4 := by
  simp [Pair, pairsL] at h
  omega
theorem Pair.start : Pair 0 0 := by simp [Pair, pairsL]
theorem Pair.swap {a b : Int} (h : Pair a b) : Pair b a := by
  simp [Pair, pairsL] at *
  omega
theorem kindAt_bd (n : Nat) (h : n < 8) : 0 ≤ kindAt n ∧ kindAt n ≤ 255 := by
  match n, h with
  | 0, _ | 1, _ | 2, _ | 3, _ | 4, _ | 5, _ | 6, _ | 7, _ => decide
def stepB (a b : Int) (n : Nat) (f : Int) (odd : Bool) : Bool :=
  let s := sendF a (kindAt n) f
  if s.2 = 0 then
    if kindAt n = 1 ∧ a = 0 ∧ odd = true then true
    else
      let t := recvF b (kindAt n) f
      (decide (t.2 = 0) || decide (b = 4)) && decide ((s.1, t.1) ∈ pairsL)
  else true
theorem step_all : (pairsL.all fun p => (List.range 8).all fun n => [(0 : Int), 1].all fun f => [true, false].all fun o => stepB p.1 p.2 n f o) = true := by decide +kernel
theorem step_at {a b : Int} (h : Pair a b) (n : Nat) (hn : n < 8) (f : Int) (hf : f = 0 ∨ f = 1) (o : Bool) : stepB a b n f o = true := by
  have h1 := List.all_eq_true.1 step_all _ h
  have h2 := List.all_eq_true.1 h1 n (List.mem_range.2 hn)
  have h3 := List.all_eq_true.1 h2 f (by simp; omega)
  exact List.all_eq_true.1 h3 o (by cases o <;> simp)
theorem step_law {a b : Int} (h : Pair a b) {n : Nat} (hn : n < 8) {f : Int} (hf : f = 0 ∨ f = 1) (o : Bool) {s e t r : Int} (hs : sendF a (kindAt n) f = (s, e)) (ht : recvF b (kindAt n) f = (t, r)) (he : e = 0)
    (ho : ¬ (kindAt n = 1 ∧ a = 0 ∧ o = true)) : (r = 0 ∨ b = 4) ∧ Pair s t := by
  have h1 := step_at h n hn f hf o
  unfold stepB at h1
  rw [hs, ht] at h1
  simp only [he, if_true] at h1
  rw [if_neg ho] at h1
  simpa [Pair] using h1
end Go.Proofs.Ytgmfbgclgjchpaa
