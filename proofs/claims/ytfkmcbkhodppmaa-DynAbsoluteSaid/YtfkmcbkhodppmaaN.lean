/- A map's entry, found and then stored into, in the two maps of a table. Conditions: the texts take no more than any can. -/
import Derived.Test.YtfkmcbkhodppmaaJ
import Derived.WideKeyEntry
namespace Go.Proofs.Ytfkmcbkhodppmaa
open Go.RowKit Go.Maps Go.WideMaps Go.ChangeShapes Go.MapKept Go.WideElems Go.ChangeMaps

theorem kl26 : KeyLaw Try.prog 26 := deep_law_laid laidOutA (m := 2) (by omega) row26 keyAt26 wide26
theorem kl9 : KeyLaw Try.prog 9 := WideMaps.string_law Try.underlying9

theorem IsW.entry {w : World} {b n : Nat} {f : Fld → Option Int} (h : IsW w b n f) (x : Fld) (hx : OkW x) (v : Int) (hv : (Lit.int .u64 v).wf = true) (hn : n < maxLen) :
    ∃ v0 st w1 w2, (Instr.mapEntry 53 (.map (some b)) (keyW x)).run Try.prog w = .ok (.tuple #[v0, goInt st]) w1 ∧ (Instr.entryStore 53 (.map (some b)) (goInt st) (.int .u64 v)).run Try.prog w1 = .ok () w2 ∧
      IsW w2 b (n + 1) (updW f x (some v)) ∧ Touch [b] w w1 ∧ Touch [b] w w2 := by
  obtain ⟨w', hr, ho, hg⟩ := h.store x hx v hv hn
  obtain ⟨D, ⟨es, clock, hb, F, hs, hD⟩, h2, h3⟩ := h
  obtain ⟨l, hl⟩ := exW x hx
  obtain ⟨v0, st, es1, clock1, e1, _, e2⟩ := entry_then_store kl26 und53 (fun u => zero34 u) hb F hl
  obtain ⟨es', clock', e3, e4⟩ := e2 (setBlock w b (.map es1 clock1)) (.int .u64 v) (heap_setBlock_same hb _)
  rw [hr] at e4
  have e5 : w' = setBlock w b (.map es' clock') := by injection e4
  have e6 : setBlock (setBlock w b (.map es1 clock1)) b (.map es' clock') = w' := by rw [e5]; simp [setBlock]
  rw [e6] at e3
  have ht : w.mapTurned (setBlock w b (.map es1 clock1)) b := ⟨es, clock, es1, clock1, hb, rfl⟩
  exact ⟨v0, st, _, w', e1, e3, ho, Touch.turned ht, Touch.of_grown (row := some b) hg⟩
theorem IsN.entry {w : World} {b n : Nat} {f : ByteArray → Option Int} (h : IsN w b n f) (x : ByteArray) (hx : OkN x) (v : Int) (hv : (Lit.int .u64 v).wf = true) (hn : n < maxLen) :
    ∃ v0 st w1 w2, (Instr.mapEntry 54 (.map (some b)) (keyN x)).run Try.prog w = .ok (.tuple #[v0, goInt st]) w1 ∧ (Instr.entryStore 54 (.map (some b)) (goInt st) (.int .u64 v)).run Try.prog w1 = .ok () w2 ∧
      IsN w2 b (n + 1) (updN f x (some v)) ∧ Touch [b] w w1 ∧ Touch [b] w w2 := by
  obtain ⟨w', hr, ho, hg⟩ := h.store x hx v hv hn
  obtain ⟨D, ⟨es, clock, hb, F, hs, hD⟩, h2, h3⟩ := h
  obtain ⟨l, hl⟩ := exN x hx
  obtain ⟨v0, st, es1, clock1, e1, _, e2⟩ := entry_then_store kl9 und54 (fun u => zero34 u) hb F hl
  obtain ⟨es', clock', e3, e4⟩ := e2 (setBlock w b (.map es1 clock1)) (.int .u64 v) (heap_setBlock_same hb _)
  rw [hr] at e4
  have e5 : w' = setBlock w b (.map es' clock') := by injection e4
  have e6 : setBlock (setBlock w b (.map es1 clock1)) b (.map es' clock') = w' := by rw [e5]; simp [setBlock]
  rw [e6] at e3
  have ht : w.mapTurned (setBlock w b (.map es1 clock1)) b := ⟨es, clock, es1, clock1, hb, rfl⟩
  exact ⟨v0, st, _, w', e1, e3, ho, Touch.turned ht, Touch.of_grown (row := some b) hg⟩
end Go.Proofs.Ytfkmcbkhodppmaa
