/- The contract of the program's Span. Conditions: the set has fewer than 2^40 ranges. -/
import Derived.Test.YthnokfchebmjiaaRgJ
namespace Go.Proofs.Ythnokfchebmjiaa
open Go.RowKit

theorem dropR_at {L : List Rng} {k : Nat} {x : Rng} (hx : L[k]? = some x) : L.drop k = x :: L.drop (k + 1) := by
  have hk := (List.getElem?_eq_some_iff.1 hx).1
  rw [List.drop_eq_getElem_cons hk, (List.getElem?_eq_some_iff.1 hx).2]
theorem sp_skip {L : List Rng} {k f l : Nat} {x : Rng} (hx : L[k]? = some x) (h : x.2 + 1 < f) : L.take k ++ sp (L.drop k) f l = L.take (k + 1) ++ sp (L.drop (k + 1)) f l := by
  rw [dropR_at hx, sp, if_pos h, List.take_add_one, hx]
  simp
theorem sp_join {L : List Rng} {k f l : Nat} {x : Rng} (hx : L[k]? = some x) (h : ¬ x.2 + 1 < f) (h2 : ¬ l + 1 < x.1) : sp (L.drop k) f l = sp (L.drop (k + 1)) (min f x.1) (max l x.2) := by
  rw [dropR_at hx, sp, if_neg h, if_neg h2]
theorem sp_stop {L : List Rng} {k f l : Nat} (h : ∀ x, L[k]? = some x → ¬ x.2 + 1 < f ∧ l + 1 < x.1) : sp (L.drop k) f l = (f, l) :: L.drop k := by
  cases hx : L[k]? with
  | none =>
    rw [List.drop_eq_nil_of_le (List.getElem?_eq_none_iff.1 hx)]
    rfl
  | some x =>
    have := h x hx
    rw [dropR_at hx, sp, if_neg this.1, if_pos this.2]
theorem sp_len : ∀ (L : List Rng) (f l : Nat), (sp L f l).length ≤ L.length + 1
  | [], _, _ => by simp [sp]
  | x :: L, f, l => by
    unfold sp
    split
    · have := sp_len L f l; simp; omega
    · split
      · simp
      · have := sp_len L (min f x.1) (max l x.2); simp; omega
end Go.Proofs.Ythnokfchebmjiaa
