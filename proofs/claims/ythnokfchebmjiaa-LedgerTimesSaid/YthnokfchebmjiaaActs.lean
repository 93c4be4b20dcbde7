/- A slice of structs as an argument: opened at every place. Conditions: none of their own. -/
import Derived.Test.YthnokfchebmjiaaBy
import Derived.ProofKit
import Derived.OpenShut
import Derived.ChangeSame
import Derived.ChangeSlices
import Derived.Deep.SlicePairs
namespace Go.Proofs.Ythnokfchebmjiaa
open Go.ChangeShapes Go.WideShapes Go.ChangeAt Go.RowKit Go.Deep

/-- A slice of structs, opened at every place. -/
theorem open_structs {H : Type} {enc : TypeId × Value → H} {P : Program} {w : World} {base : Nat} {spare : Nat → Bool} {held : Bool} {t e : TypeId} {fs : Array Field} {fuel : Nat} {cs : List Value} {x : DataW H × List MemPlace}
    (ht : P.underlying t = some (.slice e)) (he : P.underlying e = some (.struct fs)) (h : DataW.trod enc P w base spare held fuel t cs = some x) :
    cs = [.slice none 0 0] ∨ ∃ (a : Addr) (len cap : Nat), cs = [.slice (some a) len cap] ∧ len ≤ cap ∧ cap ≤ maxLen ∧ ∀ i, i < len → ∃ (cs' : List Value) (n : Nat), cs'.length = P.cellsOf e ∧ (∀ j, j < P.cellsOf e → w.cell? ((a.add (i * P.cellsOf e)).add j) = cs'[j]?) ∧
      ∀ (k : Nat) (f : Field), fs[k]? = some f → ∃ y, DataW.trod enc P w base spare held n f.type ((cs'.drop f.offset).take (P.cellsOf f.type)) = some y := by
  rcases open_slice ht h with ⟨h0, _⟩ | ⟨a, len, cap, m, n, D, Pl, rfl, hb, hl, hm, hmm, rfl, hx⟩
  · exact .inl h0
  refine .inr ⟨a, len, cap, rfl, hl, hm, fun i hi => ?_⟩
  have hlm : len ≤ m := by rw [hmm]; split <;> omega
  obtain ⟨cs', h1, h2⟩ := hx i (by omega)
  obtain ⟨_, hlen, hcell⟩ := World.cells?_some h1
  obtain ⟨xs, k, hk, hxy, _, hxl, hf⟩ := DataW.trod_struct he h2
  refine ⟨cs', k, hlen, fun j hj => ?_, fun j f hjf => ?_⟩
  · exact hcell j (by omega)
  · rw [hf j f hjf]
    have : j < xs.length := by rw [hxl]; exact (Array.getElem?_eq_some_iff.1 hjf).1
    exact ⟨_, List.getElem?_eq_getElem this⟩

def fldsOf (d : Option TypeDesc) : List (TypeId × Nat) := match d with | some (.struct fs) => (fs.toList.map fun f => (f.type, f.offset)) | _ => []
theorem fields_of {P : Program} {t : TypeId} {l : List (TypeId × Nat)} (h : fldsOf (P.underlying t) = l) (h0 : l ≠ []) :
    ∃ fs, P.underlying t = some (.struct fs) ∧ ∀ (k : Nat) (T o : Nat), l[k]? = some (T, o) → ∃ f : Field, fs[k]? = some f ∧ f.type = T ∧ f.offset = o := by
  cases hu : P.underlying t with
  | none => rw [hu] at h; exact absurd h.symm h0
  | some d =>
    rw [hu] at h
    cases d
    case struct fs =>
      simp only [fldsOf] at h
      refine ⟨fs, rfl, fun k T o hk => ?_⟩
      rw [← h] at hk
      simp at hk
      obtain ⟨f, h1, h2, h3⟩ := hk
      exact ⟨f, h1, h2, h3⟩
    all_goals exact absurd h.symm h0
theorem three_list {α : Type} (l : List α) (h : l.length = 3) : ∃ a b c, l = [a, b, c] := by
  match l, h with
  | [a, b, c], _ => exact ⟨a, b, c, rfl⟩
end Go.Proofs.Ythnokfchebmjiaa
