/- The sets as blocks of the heap, and the contracts of Count. Conditions: the numbers are below 2^63. -/
import Derived.Test.YthnokfchebmjiaaRgD
import Derived.Test.YthnokfchebmjiaaRgP
import Derived.Deep.CutBlock
import Derived.Deep.DeepCutAuto
import Derived.Deep.CutRange
import Derived.Deep.RegionHeld3
import Derived.Outline
import Derived.BigQuiet
import Derived.Deep.QuietTactic
import Derived.IntWalk
namespace Go.Proofs.Ythnokfchebmjiaa
open Go.RowKit

def rv (x : Rng) : List Value := [.int .u64 (x.1 : Int), .int .u64 (x.2 : Int)]
def cr (l : List Rng) : List Value := l.flatMap rv
theorem cr_cons (x : Rng) (l : List Rng) : cr (x :: l) = .int .u64 (x.1 : Int) :: .int .u64 (x.2 : Int) :: cr l := rfl
theorem cr_len (l : List Rng) : (cr l).length = l.length * 2 := by
  induction l with
  | nil => rfl
  | cons x l ih => rw [cr_cons, List.length_cons, List.length_cons, List.length_cons, ih]; omega
theorem cr_append (l m : List Rng) : cr (l ++ m) = cr l ++ cr m := by simp [cr]
theorem cr_at (l : List Rng) : ∀ i x, l[i]? = some x → (cr l)[i * 2]? = some (.int .u64 (x.1 : Int)) ∧ (cr l)[i * 2 + 1]? = some (.int .u64 (x.2 : Int)) := by
  induction l with
  | nil => intro i x hx; simp at hx
  | cons y l ih =>
    intro i x hx
    rw [cr_cons]
    match i with
    | 0 =>
      simp at hx
      subst hx
      exact ⟨rfl, rfl⟩
    | i + 1 =>
      have := ih i x (by simpa using hx)
      rw [show (i + 1) * 2 = i * 2 + 1 + 1 from by omega]
      simpa using this
theorem cr_drop (l : List Rng) : ∀ k, (cr l).drop (k * 2) = cr (l.drop k) := by
  induction l with
  | nil => intro k; simp [cr]
  | cons y l ih =>
    intro k
    match k with
    | 0 => simp
    | k + 1 =>
      rw [cr_cons, show (k + 1) * 2 = k * 2 + 1 + 1 from by omega]
      simpa using ih k
theorem cr_take (l : List Rng) : ∀ k, (cr l).take (k * 2) = cr (l.take k) := by
  induction l with
  | nil => intro k; simp [cr]
  | cons y l ih =>
    intro k
    match k with
    | 0 => simp [cr]
    | k + 1 =>
      rw [cr_cons, show (k + 1) * 2 = k * 2 + 1 + 1 from by omega]
      simp only [List.take_succ_cons, ih k]
      rfl
theorem cr_one (l : List Rng) : ∀ u ∈ cr l, u.oneCell' = true := by
  intro u hu
  simp [cr, rv] at hu
  obtain ⟨a, b, _, rfl | rfl⟩ := hu <;> rfl

/-- The two cells of an element. -/
theorem Rd.two {w : World} {g o n c : Nat} {l : List Rng} (h : Rd w 2 (.slice (some ⟨g, o, none⟩) n c) n (cr l)) (hn : l.length = n) (i : Nat) (x : Rng) (hx : l[i]? = some x) :
    w.cell? ⟨g, o + i * 2, none⟩ = some (.int .u64 (x.1 : Int)) ∧ w.cell? ⟨g, o + i * 2 + 1, none⟩ = some (.int .u64 (x.2 : Int)) ∧ g < w.heap.size := by
  have hi : i < l.length := (List.getElem?_eq_some_iff.1 hx).1
  rcases h.2 with ⟨_, _, _, h0⟩ | ⟨b, off, cap, he, hnc, hb, hc⟩
  · omega
  simp at he
  obtain ⟨⟨rfl, rfl⟩, rfl⟩ := he
  have h1 := cr_at l i x hx
  rw [hc (i * 2) (by omega), Nat.add_assoc, hc (i * 2 + 1) (by omega)]
  exact ⟨h1.1, h1.2, hb (by omega)⟩
theorem Rd.some {w : World} {a : Option Addr} {n c sz : Nat} {xs : List Value} (h : Rd w sz (.slice a n c) n xs) (hn : 0 < n) : ∃ g o, a = Option.some ⟨g, o, none⟩ := by
  rcases h.2 with ⟨_, _, _, h0⟩ | ⟨b, off, cap, he, _⟩
  · omega
  · simp at he
    exact ⟨_, _, he.1⟩

/-- A set: the block p, of type t; F: all its blocks. -/
def IsS (w : World) (p : Nat) (t : TypeId) (F : List Nat) (L : List Rng) (b : Nat) : Prop :=
  ∃ (a : Option Addr) (c : Nat), IsBlk w p [.slice a L.length c, .int .u64 (b : Int)] t ∧ Sl w 35 2 (.slice a L.length c) L.length (cr L) ∧
    F = p :: own (.slice a L.length c) ∧ p ∉ own (.slice a L.length c) ∧ V L b ∧ b ≤ mx
section
variable {w w' : World} {p : Nat} {t : TypeId} {F ks : List Nat} {L : List Rng} {b : Nat}
theorem IsS.touch (h : IsS w p t F L b) (hk : Touch ks w w') (hn : ∀ g ∈ F, g ∉ ks) : IsS w' p t F L b := by
  obtain ⟨a, c, h1, h2, rfl, h5⟩ := h
  exact ⟨a, c, h1.touch hk (hn _ (by simp)), h2.touch hk (fun g hg => hn g (by simp [hg])), rfl, h5⟩
theorem IsS.keep (h : IsS w p t F L b) (hk : Touch [] w w') : IsS w' p t F L b := h.touch hk (by simp)
theorem IsS.lt (h : IsS w p t F L b) : ∀ g ∈ F, g < w.heap.size := by
  obtain ⟨a, c, h1, h2, rfl, h5⟩ := h
  intro g hg
  simp only [List.mem_cons] at hg
  rcases hg with rfl | hg
  · exact h1.lt
  · exact h2.lt g hg
theorem IsS.v (h : IsS w p t F L b) : V L b ∧ b ≤ mx := by
  obtain ⟨a, c, h1, h2, rfl, _, h5⟩ := h
  exact h5
end
theorem cnt_take (L : List Rng) (k : Nat) (x : Rng) (hx : L[k]? = some x) : cnt (L.take (k + 1)) = cnt (L.take k) + (x.2 - x.1 + 1) := by
  unfold cnt
  rw [List.take_add_one, hx, List.map_append, List.sum_append]
  simp
theorem cnt_take_le (L : List Rng) (k : Nat) : cnt (L.take k) ≤ cnt L := by
  have : cnt L = cnt (L.take k) + cnt (L.drop k) := by
    unfold cnt
    rw [← List.sum_append, ← List.map_append, List.take_append_drop]
  omega
theorem cnt_cons (x : Rng) (L : List Rng) : cnt (x :: L) = (x.2 - x.1 + 1) + cnt L := by simp [cnt]
theorem cnt_le : ∀ (L : List Rng) (b c : Nat), V L b → (∀ x ∈ L, c ≤ x.1) → c ≤ mx + 1 → cnt L + c ≤ mx + 1
  | [], _, c, _, _, hc => by simp [cnt]; exact hc
  | x :: L, b, c, h, hl, _ => by
    have h1 := h.2 x (by simp)
    have h2 := hl x (by simp)
    have ih := cnt_le L b (x.2 + 1) h.tail (fun y hy => by have := h.head y hy; omega) (by omega)
    rw [cnt_cons]
    omega

end Go.Proofs.Ythnokfchebmjiaa
