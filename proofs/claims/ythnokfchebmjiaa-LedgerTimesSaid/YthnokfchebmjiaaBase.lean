/- Small laws on blocks, worlds and endings that the walks of this seat share. Conditions: none of their own. -/
import Derived.Test.YthnokfchebmjiaaRows
import Derived.WalkKit
import Derived.WalkLawsBesides
import Derived.WalkSpells
import Derived.BigQuiet
import Derived.Deep.QuietTactic
import Derived.Lib.Hide
import Derived.RowKit3
import Derived.Maps.AppendAt
import Derived.Laws.AppendOwnNone
import Derived.Laws.StructEq
namespace Go.Proofs.Ythnokfchebmjiaa
open Go.RowKit

theorem ret_i {k : IntKind} {a b : Int} (h : a = b) : Ending.returned (.int k a) = .returned (.int k b) := by rw [h]
theorem ret_b {a b : Bool} (h : a = b) : Ending.returned (.bool a) = .returned (.bool b) := by rw [h]
theorem bcell {B : Nat} {W w1 : World} (hb : Below B W w1) : (∀ b o, b < B → w1.cell? ⟨b, o, none⟩ = W.cell? ⟨b, o, none⟩) ∧ (∀ b o, b < B → w1.frozen? ⟨b, o, none⟩ = W.frozen? ⟨b, o, none⟩) :=
  ⟨fun b o h => hb.cell (p := ⟨b, o, none⟩) h, fun b o h => hb.frozen (p := ⟨b, o, none⟩) h⟩

/-- Block n of the world is whole: the cells vs, none of them frozen. -/
def IsBlk (w : World) (n : Nat) (vs : List Value) (t : TypeId) : Prop := w.heap[n]? = some (.cells vs.toArray t (0, 0))
section
variable {w : World} {n : Nat} {vs : List Value} {t : TypeId}
theorem IsBlk.lt (h : IsBlk w n vs t) : n < w.heap.size := (Array.getElem?_eq_some_iff.1 h).1
theorem IsBlk.cell (h : IsBlk w n vs t) (j : Nat) : w.cell? ⟨n, j, none⟩ = vs[j]? := by
  unfold IsBlk at h
  simp only [World.cell?, h]
  simp
theorem IsBlk.frozen (h : IsBlk w n vs t) (j : Nat) : w.frozen? ⟨n, j, none⟩ = false := by
  unfold IsBlk at h
  simp only [World.frozen?, h]
  simp
theorem IsBlk.alloc (h : IsBlk w n vs t) (o : Obj) : IsBlk (w.alloc o) n vs t := by
  have hl := h.lt
  unfold IsBlk at *
  show (w.heap.push o)[n]? = _
  rw [Array.getElem?_push, if_neg (by omega)]; exact h
theorem IsBlk.new (w : World) (vs : List Value) (t : TypeId) : IsBlk (w.alloc (.cells vs.toArray t)) w.heap.size vs t := by
  unfold IsBlk
  show (w.heap.push _)[w.heap.size]? = _
  simp
theorem IsBlk.drewN (h : IsBlk w n vs t) (k : Nat) : IsBlk (w.drewN k) n vs t := h
theorem IsBlk.drew (h : IsBlk w n vs t) : IsBlk w.drew n vs t := h
theorem IsBlk.below {B : Nat} {w' : World} (h : IsBlk w n vs t) (hb : Below B w w') (hn : n < B) : IsBlk w' n vs t := by
  unfold IsBlk at *
  rw [hb.block n hn]; exact h
theorem IsBlk.grown {w' : World} {row : Option Nat} (h : IsBlk w n vs t) (hg : w.grownBy w' row) (hr : some n ≠ row) : IsBlk w' n vs t := by
  unfold IsBlk at *
  rw [hg.block n (Array.getElem?_eq_some_iff.1 h).1 hr]; exact h
theorem IsBlk.set (h : IsBlk w n vs t) (j : Nat) (v : Value) : IsBlk (w.setCell ⟨n, j, none⟩ v) n (vs.set j v) t := by
  unfold IsBlk at *
  have h1 := Array.getElem?_eq_some_iff.1 h
  simp only [World.setCell, Array.getElem?_modify]
  rw [h]
  simp
theorem IsBlk.set_other (h : IsBlk w n vs t) {m j : Nat} {s : Option Nat} (hne : m ≠ n) (v : Value) : IsBlk (w.setCell ⟨m, j, s⟩ v) n vs t := by
  unfold IsBlk at *
  simp only [World.setCell, Array.getElem?_modify]
  rw [if_neg hne]; exact h
end
/-- An owned row while a block is written that is not its own. -/
theorem two_of {α : Type} (l : List α) (h : l.length = 2) : ∃ f g, l = [f, g] := by
  match l, h with
  | [f, g], _ => exact ⟨f, g, rfl⟩
theorem take_both {α : Type} [Inhabited α] (xs ys : List α) (k : Nat) (h1 : k < xs.length) (h2 : k < ys.length) (h : xs.take k = ys.take k) (he : xs.getD k default = ys.getD k default) : xs.take (k + 1) = ys.take (k + 1) := by
  rw [List.take_succ_eq_append_getElem h1, List.take_succ_eq_append_getElem h2, h]
  simp only [List.getD_eq_getElem?_getD, List.getElem?_eq_getElem h1, List.getElem?_eq_getElem h2, Option.getD_some] at he
  rw [he]
theorem getD_mem {α : Type} [Inhabited α] (xs : List α) (k : Nat) (h : k < xs.length) : xs.getD k default ∈ xs := by
  rw [List.getD_eq_getElem?_getD, List.getElem?_eq_getElem h]; exact List.getElem_mem _
theorem drop_at {α : Type} [Inhabited α] (xs : List α) (k : Nat) (h : k < xs.length) : xs.drop k = xs.getD k default :: xs.drop (k + 1) := by
  rw [List.drop_eq_getElem_cons h]
  simp [List.getD_eq_getElem?_getD, h]
theorem take_at {α : Type} [Inhabited α] (xs : List α) (k : Nat) (h : k < xs.length) : xs.take (k + 1) = xs.take k ++ [xs.getD k default] := by
  rw [List.take_succ_eq_append_getElem h]
  simp [List.getD_eq_getElem?_getD, h]
end Go.Proofs.Ythnokfchebmjiaa
