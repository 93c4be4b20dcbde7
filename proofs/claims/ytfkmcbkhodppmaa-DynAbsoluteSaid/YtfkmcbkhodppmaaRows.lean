/-
  No cell of these rows narrows 'for every input' (looked for: loops, veiled, ifaces, maps, wideKeys, modest, calm, conditions, laid).
  DERIVED. THE GIVEN ROWS OF THIS SEAT. 5 by the template 'for every input the law returns true; each argument reads behind the call as it read before'; 0 by the template 'total and deterministic' (their statements: YtfkmcbkhodppmaaTotals.lean).
  GIVEN WITH THE SEED: the statements are not yours to turn. If you find one false, say at which input.
  Laid BY PROGRAM, IN A SANDBOX (cutbox-rows.mjs): the forced cells as the released guide's own fill.sh prints them over the translation d8c643de06269b39… (all of the seat's roots in one cut). By AI agents, Wed Nov 11 2026. No macro, syntax, notation, axiom, sorry.
-/
import Derived.Test.YtfkmcbkhodppmaaChecked
import GoSem.Claim
import GoSem.ClaimJoined
import GoSem.ClaimMapViews
import Derived.JoinedTies
import Derived.KernelRfl
namespace Go.Proofs.Ytfkmcbkhodppmaa
/- THE CELL 'sum', in the pinned program and in every row, IS THE sha256 OF THE DUMP (.gsa) THAT YtfkmcbkhodppmaaProg.lean LOADS. Nothing in Lean hashes anything: it is a label: what it is worth is what the hold of that sum in a sandbox is worth. -/
noncomputable def Try.pinned : Pinned := { name := "ytfkmcbkhodppmaa", sum := "d8c643de06269b39a6462e2c09257d35926da828946e6bb766f5317a1d29ecbc", checked := Try.checked }
namespace Rows
def none {H : Type} : Left H := { results := [], args := [] }

/-- 'bifoldlaw5.DynMany': WHATEVER THE INPUT: true; the input reads as it did. -/
def dynManySpec : ChangeSpec := { name := "dynMany", fn := fun _ => fun
  | [d1, d2] => { results := [.lit (.bool true)], args := [d1, d2] }
  | _ => none }
def dynManyRow : OpenClaim := { program := "ytfkmcbkhodppmaa", sum := "d8c643de06269b39a6462e2c09257d35926da828946e6bb766f5317a1d29ecbc", func := "bifold/bifoldlaw5.DynMany", spec := "dynMany", plainKeys := false, apart := false }
def DynManySaid : Prop := dynManyRow.holds Try.pinned (OpenSpec.ofChange dynManySpec)

/-- ITS FALSE NEIGHBOUR: 'it returns false'. Refute it at one input. -/
def dynManyWrong : ChangeSpec := { name := "dynMany", fn := fun _ => fun
  | [d1, d2] => { results := [.lit (.bool false)], args := [d1, d2] }
  | _ => none }
def DynManyWrongFalsely : Prop := dynManyRow.holds Try.pinned (OpenSpec.ofChange dynManyWrong)

/-- 'bifoldlaw5.DynGreat': WHATEVER THE INPUT: true; the input reads as it did. -/
def dynGreatSpec : ChangeSpec := { name := "dynGreat", fn := fun _ => fun
  | [d1, d2, d3] => { results := [.lit (.bool true)], args := [d1, d2, d3] }
  | _ => none }
def dynGreatRow : OpenClaim := { program := "ytfkmcbkhodppmaa", sum := "d8c643de06269b39a6462e2c09257d35926da828946e6bb766f5317a1d29ecbc", func := "bifold/bifoldlaw5.DynGreat", spec := "dynGreat", plainKeys := false, apart := false }
def DynGreatSaid : Prop := dynGreatRow.holds Try.pinned (OpenSpec.ofChange dynGreatSpec)

/-- ITS FALSE NEIGHBOUR: 'it returns false'. Refute it at one input. -/
def dynGreatWrong : ChangeSpec := { name := "dynGreat", fn := fun _ => fun
  | [d1, d2, d3] => { results := [.lit (.bool false)], args := [d1, d2, d3] }
  | _ => none }
def DynGreatWrongFalsely : Prop := dynGreatRow.holds Try.pinned (OpenSpec.ofChange dynGreatWrong)

/-- 'bifoldlaw5.DynAbsolute': WHATEVER THE INPUT: true; the input reads as it did. -/
def dynAbsoluteSpec : ChangeSpec := { name := "dynAbsolute", fn := fun _ => fun
  | [d1, d2] => { results := [.lit (.bool true)], args := [d1, d2] }
  | _ => none }
def dynAbsoluteRow : OpenClaim := { program := "ytfkmcbkhodppmaa", sum := "d8c643de06269b39a6462e2c09257d35926da828946e6bb766f5317a1d29ecbc", func := "bifold/bifoldlaw5.DynAbsolute", spec := "dynAbsolute", plainKeys := false, apart := false }
def DynAbsoluteSaid : Prop := dynAbsoluteRow.holds Try.pinned (OpenSpec.ofChange dynAbsoluteSpec)

/-- ITS FALSE NEIGHBOUR: 'it returns false'. Refute it at one input. -/
def dynAbsoluteWrong : ChangeSpec := { name := "dynAbsolute", fn := fun _ => fun
  | [d1, d2] => { results := [.lit (.bool false)], args := [d1, d2] }
  | _ => none }
def DynAbsoluteWrongFalsely : Prop := dynAbsoluteRow.holds Try.pinned (OpenSpec.ofChange dynAbsoluteWrong)

/-- 'bifoldlaw5.DynPlays': WHATEVER THE INPUT: true; the input reads as it did. -/
def dynPlaysSpec : ChangeSpec := { name := "dynPlays", fn := fun _ => fun
  | [d1, d2, d3, d4] => { results := [.lit (.bool true)], args := [d1, d2, d3, d4] }
  | _ => none }
def dynPlaysRow : OpenClaim := { program := "ytfkmcbkhodppmaa", sum := "d8c643de06269b39a6462e2c09257d35926da828946e6bb766f5317a1d29ecbc", func := "bifold/bifoldlaw5.DynPlays", spec := "dynPlays", plainKeys := false, apart := false }
def DynPlaysSaid : Prop := dynPlaysRow.holds Try.pinned (OpenSpec.ofChange dynPlaysSpec)

/-- ITS FALSE NEIGHBOUR: 'it returns false'. Refute it at one input. -/
def dynPlaysWrong : ChangeSpec := { name := "dynPlays", fn := fun _ => fun
  | [d1, d2, d3, d4] => { results := [.lit (.bool false)], args := [d1, d2, d3, d4] }
  | _ => none }
def DynPlaysWrongFalsely : Prop := dynPlaysRow.holds Try.pinned (OpenSpec.ofChange dynPlaysWrong)

/-- 'bifoldlaw5.DynShrinks': WHATEVER THE INPUT: true; the input reads as it did. -/
def dynShrinksSpec : ChangeSpec := { name := "dynShrinks", fn := fun _ => fun
  | [d1, d2] => { results := [.lit (.bool true)], args := [d1, d2] }
  | _ => none }
def dynShrinksRow : OpenClaim := { program := "ytfkmcbkhodppmaa", sum := "d8c643de06269b39a6462e2c09257d35926da828946e6bb766f5317a1d29ecbc", func := "bifold/bifoldlaw5.DynShrinks", spec := "dynShrinks", plainKeys := false, apart := false }
def DynShrinksSaid : Prop := dynShrinksRow.holds Try.pinned (OpenSpec.ofChange dynShrinksSpec)

/-- ITS FALSE NEIGHBOUR: 'it returns false'. Refute it at one input. -/
def dynShrinksWrong : ChangeSpec := { name := "dynShrinks", fn := fun _ => fun
  | [d1, d2] => { results := [.lit (.bool false)], args := [d1, d2] }
  | _ => none }
def DynShrinksWrongFalsely : Prop := dynShrinksRow.holds Try.pinned (OpenSpec.ofChange dynShrinksWrong)

/- THE SECOND FORM. 'bulk': how many values and letters a reading holds, each counted each time it is reached (what is shared counts as often as it is met; a slice's spare places count too). A statement '..UptoSaid' is the law's where the arguments, and the package variables that the reading takes, are together of bulk at most 1048576: NARROWER than '..Said'. Prove '..Said' where nothing that the law and all that it calls make is longer than what came in: it says more and counts as full. Else prove '..UptoSaid'. A law counts once. -/
mutual
def uptoBulk {H : Type} : DataW H → Nat
  | .lit (.string bytes) => bytes.length + 1
  | .lit _ => 1
  | .nil => 1
  | .ptr d => uptoBulk d + 1
  | .slice elems spare => uptoBulkAll elems + uptoBulkAll spare + 1
  | .agg parts => uptoBulkAll parts + 1
  | .iface _ d => uptoBulk d + 1
  | .map entries => uptoBulkEntries entries + 1
  | .held _ => 1
def uptoBulkAll {H : Type} : List (DataW H) → Nat
  | [] => 0
  | d :: r => uptoBulk d + uptoBulkAll r
def uptoBulkEntries {H : Type} : List (Lit × DataW H) → Nat
  | [] => 0
  | x :: r => uptoBulkEntry x + uptoBulkEntries r
def uptoBulkEntry {H : Type} : Lit × DataW H → Nat
  | (.string bytes, d) => bytes.length + uptoBulk d + 1
  | (_, d) => uptoBulk d + 1
 end
def uptoSmall : (H : Type) → List (DataW H) → Bool := fun _ ds => decide (uptoBulkAll ds ≤ 1048576)
def OpenSpec.upto (s : _root_.Go.ChangeSpec) : _root_.Go.OpenSpec := { _root_.Go.OpenSpec.ofChange s with cond := some uptoSmall }

/-- 'bifoldlaw5.DynMany', WHERE WHAT IT READS IS OF BULK AT MOST 1048576: true; the input reads as it did. -/
def dynManyUptoRow : OpenClaim := { program := "ytfkmcbkhodppmaa", sum := "d8c643de06269b39a6462e2c09257d35926da828946e6bb766f5317a1d29ecbc", func := "bifold/bifoldlaw5.DynMany", spec := "dynMany", plainKeys := false, apart := false, narrowed := true }
def DynManyUptoSaid : Prop := dynManyUptoRow.holds Try.pinned (OpenSpec.upto dynManySpec)

/-- 'bifoldlaw5.DynGreat', WHERE WHAT IT READS IS OF BULK AT MOST 1048576: true; the input reads as it did. -/
def dynGreatUptoRow : OpenClaim := { program := "ytfkmcbkhodppmaa", sum := "d8c643de06269b39a6462e2c09257d35926da828946e6bb766f5317a1d29ecbc", func := "bifold/bifoldlaw5.DynGreat", spec := "dynGreat", plainKeys := false, apart := false, narrowed := true }
def DynGreatUptoSaid : Prop := dynGreatUptoRow.holds Try.pinned (OpenSpec.upto dynGreatSpec)

/-- 'bifoldlaw5.DynAbsolute', WHERE WHAT IT READS IS OF BULK AT MOST 1048576: true; the input reads as it did. -/
def dynAbsoluteUptoRow : OpenClaim := { program := "ytfkmcbkhodppmaa", sum := "d8c643de06269b39a6462e2c09257d35926da828946e6bb766f5317a1d29ecbc", func := "bifold/bifoldlaw5.DynAbsolute", spec := "dynAbsolute", plainKeys := false, apart := false, narrowed := true }
def DynAbsoluteUptoSaid : Prop := dynAbsoluteUptoRow.holds Try.pinned (OpenSpec.upto dynAbsoluteSpec)

/-- 'bifoldlaw5.DynPlays', WHERE WHAT IT READS IS OF BULK AT MOST 1048576: true; the input reads as it did. -/
def dynPlaysUptoRow : OpenClaim := { program := "ytfkmcbkhodppmaa", sum := "d8c643de06269b39a6462e2c09257d35926da828946e6bb766f5317a1d29ecbc", func := "bifold/bifoldlaw5.DynPlays", spec := "dynPlays", plainKeys := false, apart := false, narrowed := true }
def DynPlaysUptoSaid : Prop := dynPlaysUptoRow.holds Try.pinned (OpenSpec.upto dynPlaysSpec)

/-- 'bifoldlaw5.DynShrinks', WHERE WHAT IT READS IS OF BULK AT MOST 1048576: true; the input reads as it did. -/
def dynShrinksUptoRow : OpenClaim := { program := "ytfkmcbkhodppmaa", sum := "d8c643de06269b39a6462e2c09257d35926da828946e6bb766f5317a1d29ecbc", func := "bifold/bifoldlaw5.DynShrinks", spec := "dynShrinks", plainKeys := false, apart := false, narrowed := true }
def DynShrinksUptoSaid : Prop := dynShrinksUptoRow.holds Try.pinned (OpenSpec.upto dynShrinksSpec)

end Rows
end Go.Proofs.Ytfkmcbkhodppmaa
