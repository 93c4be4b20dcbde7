/-
  No cell of these rows narrows 'for every input' (looked for: loops, veiled, ifaces, maps, wideKeys, modest, calm, conditions, laid).
  DERIVED. THE GIVEN ROWS OF THIS SEAT. 5 by the template 'for every input the law returns true; each argument reads behind the call as it read before'; 0 by the template 'total and deterministic' (their statements: YtmidlielcioinaaTotals.lean).
  GIVEN WITH THE SEED: the statements are not yours to turn. If you find one false, say at which input.
  Laid BY PROGRAM, IN A SANDBOX (cutbox-rows.mjs): the forced cells as the released guide's own fill.sh prints them over the translation c3ec31bd4b34ff1f… (all of the seat's roots in one cut). By AI agents, Wed Nov 11 2026. No macro, syntax, notation, axiom, sorry.
-/
import Derived.Test.YtmidlielcioinaaChecked
import GoSem.Claim
import GoSem.ClaimJoined
import GoSem.ClaimMapViews
import Derived.JoinedTies
import Derived.KernelRfl
namespace Go.Proofs.Ytmidlielcioinaa
/- THE CELL 'sum', in the pinned program and in every row, IS THE sha256 OF THE DUMP (.gsa) THAT YtmidlielcioinaaProg.lean LOADS. Nothing in Lean hashes anything: it is a label: what it is worth is what the hold of that sum in a sandbox is worth. -/
noncomputable def Try.pinned : Pinned := { name := "ytmidlielcioinaa", sum := "c3ec31bd4b34ff1f5a935c7752e291fafeded7dd71ec15df7a2aa4edb54500c5", checked := Try.checked }
namespace Rows
def none {H : Type} : Left H := { results := [], args := [] }

/-- 'bifoldlaw25.HalfWhole': WHATEVER THE INPUT: true; the input reads as it did. -/
def halfWholeSpec : ChangeSpec := { name := "halfWhole", fn := fun _ => fun
  | [d1, d2, d3] => { results := [.lit (.bool true)], args := [d1, d2, d3] }
  | _ => none }
def halfWholeRow : OpenClaim := { program := "ytmidlielcioinaa", sum := "c3ec31bd4b34ff1f5a935c7752e291fafeded7dd71ec15df7a2aa4edb54500c5", func := "bifold/bifoldlaw25.HalfWhole", spec := "halfWhole", inPlace := ["slices.overlaps[bifold/api.Range]"], apart := false }
def HalfWholeSaid : Prop := halfWholeRow.holds Try.pinned (OpenSpec.ofChange halfWholeSpec)

/-- ITS FALSE NEIGHBOUR: 'it returns false'. Refute it at one input. -/
def halfWholeWrong : ChangeSpec := { name := "halfWhole", fn := fun _ => fun
  | [d1, d2, d3] => { results := [.lit (.bool false)], args := [d1, d2, d3] }
  | _ => none }
def HalfWholeWrongFalsely : Prop := halfWholeRow.holds Try.pinned (OpenSpec.ofChange halfWholeWrong)

/-- 'bifoldlaw25.HalfIds': WHATEVER THE INPUT: true; the input reads as it did. -/
def halfIdsSpec : ChangeSpec := { name := "halfIds", fn := fun _ => fun
  | [d1, d2, d3, d4] => { results := [.lit (.bool true)], args := [d1, d2, d3, d4] }
  | _ => none }
def halfIdsRow : OpenClaim := { program := "ytmidlielcioinaa", sum := "c3ec31bd4b34ff1f5a935c7752e291fafeded7dd71ec15df7a2aa4edb54500c5", func := "bifold/bifoldlaw25.HalfIds", spec := "halfIds", inPlace := ["slices.overlaps[bifold/api.Range]"], apart := false }
def HalfIdsSaid : Prop := halfIdsRow.holds Try.pinned (OpenSpec.ofChange halfIdsSpec)

/-- ITS FALSE NEIGHBOUR: 'it returns false'. Refute it at one input. -/
def halfIdsWrong : ChangeSpec := { name := "halfIds", fn := fun _ => fun
  | [d1, d2, d3, d4] => { results := [.lit (.bool false)], args := [d1, d2, d3, d4] }
  | _ => none }
def HalfIdsWrongFalsely : Prop := halfIdsRow.holds Try.pinned (OpenSpec.ofChange halfIdsWrong)

/-- 'bifoldlaw25.HalfCredit': WHATEVER THE INPUT: true; the input reads as it did. -/
def halfCreditSpec : ChangeSpec := { name := "halfCredit", fn := fun _ => fun
  | [d1, d2, d3] => { results := [.lit (.bool true)], args := [d1, d2, d3] }
  | _ => none }
def halfCreditRow : OpenClaim := { program := "ytmidlielcioinaa", sum := "c3ec31bd4b34ff1f5a935c7752e291fafeded7dd71ec15df7a2aa4edb54500c5", func := "bifold/bifoldlaw25.HalfCredit", spec := "halfCredit", inPlace := ["slices.overlaps[bifold/api.Range]"], apart := false }
def HalfCreditSaid : Prop := halfCreditRow.holds Try.pinned (OpenSpec.ofChange halfCreditSpec)

/-- ITS FALSE NEIGHBOUR: 'it returns false'. Refute it at one input. -/
def halfCreditWrong : ChangeSpec := { name := "halfCredit", fn := fun _ => fun
  | [d1, d2, d3] => { results := [.lit (.bool false)], args := [d1, d2, d3] }
  | _ => none }
def HalfCreditWrongFalsely : Prop := halfCreditRow.holds Try.pinned (OpenSpec.ofChange halfCreditWrong)

/-- 'bifoldlaw25.HalfStates': WHATEVER THE INPUT: true; the input reads as it did. -/
def halfStatesSpec : ChangeSpec := { name := "halfStates", fn := fun _ => fun
  | [d1, d2, d3] => { results := [.lit (.bool true)], args := [d1, d2, d3] }
  | _ => none }
def halfStatesRow : OpenClaim := { program := "ytmidlielcioinaa", sum := "c3ec31bd4b34ff1f5a935c7752e291fafeded7dd71ec15df7a2aa4edb54500c5", func := "bifold/bifoldlaw25.HalfStates", spec := "halfStates", inPlace := ["slices.overlaps[bifold/api.Range]"], apart := false }
def HalfStatesSaid : Prop := halfStatesRow.holds Try.pinned (OpenSpec.ofChange halfStatesSpec)

/-- ITS FALSE NEIGHBOUR: 'it returns false'. Refute it at one input. -/
def halfStatesWrong : ChangeSpec := { name := "halfStates", fn := fun _ => fun
  | [d1, d2, d3] => { results := [.lit (.bool false)], args := [d1, d2, d3] }
  | _ => none }
def HalfStatesWrongFalsely : Prop := halfStatesRow.holds Try.pinned (OpenSpec.ofChange halfStatesWrong)

/-- 'bifoldlaw25.HalfPlays': WHATEVER THE INPUT: true; the input reads as it did. -/
def halfPlaysSpec : ChangeSpec := { name := "halfPlays", fn := fun _ => fun
  | [d1, d2] => { results := [.lit (.bool true)], args := [d1, d2] }
  | _ => none }
def halfPlaysRow : OpenClaim := { program := "ytmidlielcioinaa", sum := "c3ec31bd4b34ff1f5a935c7752e291fafeded7dd71ec15df7a2aa4edb54500c5", func := "bifold/bifoldlaw25.HalfPlays", spec := "halfPlays", inPlace := ["slices.overlaps[bifold/api.Range]"], apart := false }
def HalfPlaysSaid : Prop := halfPlaysRow.holds Try.pinned (OpenSpec.ofChange halfPlaysSpec)

/-- ITS FALSE NEIGHBOUR: 'it returns false'. Refute it at one input. -/
def halfPlaysWrong : ChangeSpec := { name := "halfPlays", fn := fun _ => fun
  | [d1, d2] => { results := [.lit (.bool false)], args := [d1, d2] }
  | _ => none }
def HalfPlaysWrongFalsely : Prop := halfPlaysRow.holds Try.pinned (OpenSpec.ofChange halfPlaysWrong)

/- THE SECOND FORM. 'bulk': how many values and letters a reading holds, each counted each time it is reached (what is shared counts as often as it is met; a slice's spare places count too). A statement '..UptoSaid' is the law's where the arguments, and the package variables that the reading takes, are together of bulk at most 1048576: NARROWER than '..Said'. Prove '..Said' where nothing that the law and all that it calls make is longer than what came in: it says more and counts as full. Else prove '..UptoSaid'. A law counts once. -/
mutual
def uptoBulk {H : Type} : DataW H → Nat
  | .lit (.string bytes) => bytes.length + 1
  | .lit _ => 1
  | .nil => 1
  | .ptr d => uptoBulk d + 1
  | .slice elems spare => uptoBulkAll elems + uptoBulkAll spare + 1
  | .agg parts => uptoBulkAll parts + 1
  | .iface _ d => uptoBulk d + 1
  | .map entries => uptoBulkEntries entries + 1
  | .held _ => 1
def uptoBulkAll {H : Type} : List (DataW H) → Nat
  | [] => 0
  | d :: r => uptoBulk d + uptoBulkAll r
def uptoBulkEntries {H : Type} : List (Lit × DataW H) → Nat
  | [] => 0
  | x :: r => uptoBulkEntry x + uptoBulkEntries r
def uptoBulkEntry {H : Type} : Lit × DataW H → Nat
  | (.string bytes, d) => bytes.length + uptoBulk d + 1
  | (_, d) => uptoBulk d + 1
 end
def uptoSmall : (H : Type) → List (DataW H) → Bool := fun _ ds => decide (uptoBulkAll ds ≤ 1048576)
def OpenSpec.upto (s : _root_.Go.ChangeSpec) : _root_.Go.OpenSpec := { _root_.Go.OpenSpec.ofChange s with cond := some uptoSmall }

/-- 'bifoldlaw25.HalfWhole', WHERE WHAT IT READS IS OF BULK AT MOST 1048576: true; the input reads as it did. -/
def halfWholeUptoRow : OpenClaim := { program := "ytmidlielcioinaa", sum := "c3ec31bd4b34ff1f5a935c7752e291fafeded7dd71ec15df7a2aa4edb54500c5", func := "bifold/bifoldlaw25.HalfWhole", spec := "halfWhole", inPlace := ["slices.overlaps[bifold/api.Range]"], apart := false, narrowed := true }
def HalfWholeUptoSaid : Prop := halfWholeUptoRow.holds Try.pinned (OpenSpec.upto halfWholeSpec)

/-- 'bifoldlaw25.HalfIds', WHERE WHAT IT READS IS OF BULK AT MOST 1048576: true; the input reads as it did. -/
def halfIdsUptoRow : OpenClaim := { program := "ytmidlielcioinaa", sum := "c3ec31bd4b34ff1f5a935c7752e291fafeded7dd71ec15df7a2aa4edb54500c5", func := "bifold/bifoldlaw25.HalfIds", spec := "halfIds", inPlace := ["slices.overlaps[bifold/api.Range]"], apart := false, narrowed := true }
def HalfIdsUptoSaid : Prop := halfIdsUptoRow.holds Try.pinned (OpenSpec.upto halfIdsSpec)

/-- 'bifoldlaw25.HalfCredit', WHERE WHAT IT READS IS OF BULK AT MOST 1048576: true; the input reads as it did. -/
def halfCreditUptoRow : OpenClaim := { program := "ytmidlielcioinaa", sum := "c3ec31bd4b34ff1f5a935c7752e291fafeded7dd71ec15df7a2aa4edb54500c5", func := "bifold/bifoldlaw25.HalfCredit", spec := "halfCredit", inPlace := ["slices.overlaps[bifold/api.Range]"], apart := false, narrowed := true }
def HalfCreditUptoSaid : Prop := halfCreditUptoRow.holds Try.pinned (OpenSpec.upto halfCreditSpec)

/-- 'bifoldlaw25.HalfStates', WHERE WHAT IT READS IS OF BULK AT MOST 1048576: true; the input reads as it did. -/
def halfStatesUptoRow : OpenClaim := { program := "ytmidlielcioinaa", sum := "c3ec31bd4b34ff1f5a935c7752e291fafeded7dd71ec15df7a2aa4edb54500c5", func := "bifold/bifoldlaw25.HalfStates", spec := "halfStates", inPlace := ["slices.overlaps[bifold/api.Range]"], apart := false, narrowed := true }
def HalfStatesUptoSaid : Prop := halfStatesUptoRow.holds Try.pinned (OpenSpec.upto halfStatesSpec)

/-- 'bifoldlaw25.HalfPlays', WHERE WHAT IT READS IS OF BULK AT MOST 1048576: true; the input reads as it did. -/
def halfPlaysUptoRow : OpenClaim := { program := "ytmidlielcioinaa", sum := "c3ec31bd4b34ff1f5a935c7752e291fafeded7dd71ec15df7a2aa4edb54500c5", func := "bifold/bifoldlaw25.HalfPlays", spec := "halfPlays", inPlace := ["slices.overlaps[bifold/api.Range]"], apart := false, narrowed := true }
def HalfPlaysUptoSaid : Prop := halfPlaysUptoRow.holds Try.pinned (OpenSpec.upto halfPlaysSpec)

end Rows
end Go.Proofs.Ytmidlielcioinaa
