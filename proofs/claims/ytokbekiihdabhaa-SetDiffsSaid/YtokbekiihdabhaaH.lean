/- Plain laws on differences, the reading of the document's row of seven, and the comparison of two settings. Conditions: none. -/
import Derived.Test.YtokbekiihdabhaaF
namespace Go.Proofs.Ytokbekiihdabhaa
open Go.RowKit

def Is7 (w : World) (p : Nat) (x : S6) : Prop :=
  p < w.heap.size ∧ w.cell? ⟨p, 0, none⟩ = some (.int .u64 0) ∧ w.cell? ⟨p, 1, none⟩ = some (.int .u64 x.t) ∧ w.cell? ⟨p, 2, none⟩ = some (.int .u64 x.p) ∧ w.cell? ⟨p, 3, none⟩ = some (.int .u64 x.s) ∧
    w.cell? ⟨p, 4, none⟩ = some (.int .u64 x.w) ∧ w.cell? ⟨p, 5, none⟩ = some (.int .u64 x.f) ∧ w.cell? ⟨p, 6, none⟩ = some (.int .u64 x.l)
theorem Is7.below {w w' : World} {p : Nat} {x : S6} (h : Is7 w p x) (hb : Below w.heap.size w w') : Is7 w' p x := by
  obtain ⟨h0, h1, h2, h3, h4, h5, h6, h7⟩ := h
  have hs := hb.size
  refine ⟨by omega, ?_, ?_, ?_, ?_, ?_, ?_, ?_⟩ <;> (rw [(bcell hb).1 _ _ h0]; assumption)
theorem Is7.get {w : World} {p : Nat} {x : S6} (h : Is7 w p x) (j : Nat) (hj : j < 6) : w.cell? ⟨p, j + 1, none⟩ = some (.int .u64 (x.get ((j : Int) + 1))) := by
  obtain ⟨h0, h1, h2, h3, h4, h5, h6, h7⟩ := h
  match j, hj with
  | 0, _ => exact h2
  | 1, _ => exact h3
  | 2, _ => exact h4
  | 3, _ => exact h5
  | 4, _ => exact h6
  | 5, _ => exact h7
def setL (x : S6) (l : List (Int × Int)) : S6 := l.foldl (fun y c => y.set c.1 c.2) x
theorem applyL_good (l : List (Int × Int)) : ∀ x : S6, (applyL x l).2 = 0 → (applyL x l).1 = setL x l := by
  induction l with
  | nil => intro x _; rfl
  | cons c r ih =>
    intro x h
    simp only [applyL] at h ⊢
    split at h
    · rename_i hw; rw [if_pos hw]; exact ih _ h
    · rename_i hw; exact absurd h hw
theorem setL_diff (a b : S6) : setL a (diffTo a b 6) = b := by
  obtain ⟨a1, a2, a3, a4, a5, a6⟩ := a
  obtain ⟨b1, b2, b3, b4, b5, b6⟩ := b
  simp only [diffTo, List.range_succ, List.range_zero, List.nil_append, List.filter_append, List.map_append, setL, List.foldl_append, List.filter_cons, List.filter_nil, S6.get]
  by_cases h1 : a1 = b1 <;> by_cases h2 : a2 = b2 <;> by_cases h3 : a3 = b3 <;> by_cases h4 : a4 = b4 <;> by_cases h5 : a5 = b5 <;> by_cases h6 : a6 = b6 <;> simp [h1, h2, h3, h4, h5, h6, S6.set]
theorem apply_diff (a b : S6) (h : (applyL a (diffTo a b 6)).2 = 0) : (applyL a (diffTo a b 6)).1 = b := by rw [applyL_good _ _ h, setL_diff]

theorem six_of {α : Type} (l : List α) (h : l.length = 6) : ∃ a b c d e f, l = [a, b, c, d, e, f] := by
  match l, h with
  | [a, b, c, d, e, f], _ => exact ⟨a, b, c, d, e, f, rfl⟩
theorem fieldsS : ((Try.prog.fieldsOf 24).toList.map fun f => (f.type, f.offset)) = [(22, 0), (22, 1), (22, 2), (22, 3), (22, 4), (22, 5)] := by kernel_rfl
theorem fieldsS' : ((Try.prog.fieldsOf 24).toList.map fun f => (f.name == "_")) = [false, false, false, false, false, false] := by kernel_rfl
theorem run_eqS (x : S6) (w : World) : (Op.equalIn 10000 24 (.agg #[.int .u64 x.t, .int .u64 x.p, .int .u64 x.s, .int .u64 x.w, .int .u64 x.f, .int .u64 x.l]) (.agg #[.int .u64 x.t, .int .u64 x.p, .int .u64 x.s, .int .u64 x.w, .int .u64 x.f, .int .u64 x.l])).run Try.prog w = .ok true w := by
  rw [run_equalIn_struct w 9999 24 _ _ (by kernel_rfl) (by kernel_rfl)]
  have h := fieldsS
  have h' := fieldsS'
  generalize (Try.prog.fieldsOf 24).toList = l at h h'
  obtain ⟨a, b, c, d, e, f, rfl⟩ := six_of l (by simpa using congrArg List.length h)
  simp at h h'
  obtain ⟨⟨h1, h2⟩, ⟨h3, h4⟩, ⟨h5, h6⟩, ⟨h7, h8⟩, ⟨h9, h10⟩, h11, h12⟩ := h
  obtain ⟨g1, g2, g3, g4, g5, g6⟩ := h'
  simp [Op.eqFields, h1, h2, h3, h4, h5, h6, h7, h8, h9, h10, h11, h12, g1, g2, g3, g4, g5, g6, go_sem]
end Go.Proofs.Ytokbekiihdabhaa
