/-
  No cell of these rows narrows 'for every input' (looked for: loops, veiled, ifaces, maps, wideKeys, modest, calm, conditions, laid).
  DERIVED. THE GIVEN ROWS OF THIS SEAT. 4 by the template 'for every input the law returns true; each argument reads behind the call as it read before'; 0 by the template 'total and deterministic' (their statements: YtbijoeemioeejaaTotals.lean).
  GIVEN WITH THE SEED: the statements are not yours to turn. If you find one false, say at which input.
  Laid BY PROGRAM, IN A SANDBOX (cutbox-rows.mjs): the forced cells as the released guide's own fill.sh prints them over the translation d83a91861b2db07a… (all of the seat's roots in one cut). By AI agents, Wed Nov 11 2026. No macro, syntax, notation, axiom, sorry.
-/
import Derived.Test.YtbijoeemioeejaaChecked
import GoSem.Claim
import GoSem.ClaimJoined
import GoSem.ClaimMapViews
import Derived.JoinedTies
import Derived.KernelRfl
namespace Go.Proofs.Ytbijoeemioeejaa
/- THE CELL 'sum', in the pinned program and in every row, IS THE sha256 OF THE DUMP (.gsa) THAT YtbijoeemioeejaaProg.lean LOADS. Nothing in Lean hashes anything: it is a label: what it is worth is what the hold of that sum in a sandbox is worth. -/
noncomputable def Try.pinned : Pinned := { name := "ytbijoeemioeejaa", sum := "d83a91861b2db07a47e4b34a70f152837d6c1c7bcf26f84d7f72f9a7f893ba0a", checked := Try.checked }
namespace Rows
def none {H : Type} : Left H := { results := [], args := [] }

/-- 'bifoldlaw21.RangesPlays': WHATEVER THE INPUT: true; the input reads as it did. -/
def rangesPlaysSpec : ChangeSpec := { name := "rangesPlays", fn := fun _ => fun
  | [d1, d2] => { results := [.lit (.bool true)], args := [d1, d2] }
  | _ => none }
def rangesPlaysRow : OpenClaim := { program := "ytbijoeemioeejaa", sum := "d83a91861b2db07a47e4b34a70f152837d6c1c7bcf26f84d7f72f9a7f893ba0a", func := "bifold/bifoldlaw21.RangesPlays", spec := "rangesPlays", inPlace := ["slices.overlaps[bifold/api.Range]"], unfollowed := true, recurses := true, apart := false }
def RangesPlaysSaid : Prop := rangesPlaysRow.holds Try.pinned (OpenSpec.ofChange rangesPlaysSpec)

/-- ITS FALSE NEIGHBOUR: 'it returns false'. Refute it at one input. -/
def rangesPlaysWrong : ChangeSpec := { name := "rangesPlays", fn := fun _ => fun
  | [d1, d2] => { results := [.lit (.bool false)], args := [d1, d2] }
  | _ => none }
def RangesPlaysWrongFalsely : Prop := rangesPlaysRow.holds Try.pinned (OpenSpec.ofChange rangesPlaysWrong)

/-- 'bifoldlaw21.RangesTurned': WHATEVER THE INPUT: true; the input reads as it did. -/
def rangesTurnedSpec : ChangeSpec := { name := "rangesTurned", fn := fun _ => fun
  | [d1, d2] => { results := [.lit (.bool true)], args := [d1, d2] }
  | _ => none }
def rangesTurnedRow : OpenClaim := { program := "ytbijoeemioeejaa", sum := "d83a91861b2db07a47e4b34a70f152837d6c1c7bcf26f84d7f72f9a7f893ba0a", func := "bifold/bifoldlaw21.RangesTurned", spec := "rangesTurned", inPlace := ["slices.overlaps[bifold/api.Range]"], unfollowed := true, recurses := true, apart := false }
def RangesTurnedSaid : Prop := rangesTurnedRow.holds Try.pinned (OpenSpec.ofChange rangesTurnedSpec)

/-- ITS FALSE NEIGHBOUR: 'it returns false'. Refute it at one input. -/
def rangesTurnedWrong : ChangeSpec := { name := "rangesTurned", fn := fun _ => fun
  | [d1, d2] => { results := [.lit (.bool false)], args := [d1, d2] }
  | _ => none }
def RangesTurnedWrongFalsely : Prop := rangesTurnedRow.holds Try.pinned (OpenSpec.ofChange rangesTurnedWrong)

/-- 'bifoldlaw21.RangesForgets': WHATEVER THE INPUT: true; the input reads as it did. -/
def rangesForgetsSpec : ChangeSpec := { name := "rangesForgets", fn := fun _ => fun
  | [d1, d2, d3] => { results := [.lit (.bool true)], args := [d1, d2, d3] }
  | _ => none }
def rangesForgetsRow : OpenClaim := { program := "ytbijoeemioeejaa", sum := "d83a91861b2db07a47e4b34a70f152837d6c1c7bcf26f84d7f72f9a7f893ba0a", func := "bifold/bifoldlaw21.RangesForgets", spec := "rangesForgets", inPlace := ["slices.overlaps[bifold/api.Range]"], unfollowed := true, recurses := true, apart := false }
def RangesForgetsSaid : Prop := rangesForgetsRow.holds Try.pinned (OpenSpec.ofChange rangesForgetsSpec)

/-- ITS FALSE NEIGHBOUR: 'it returns false'. Refute it at one input. -/
def rangesForgetsWrong : ChangeSpec := { name := "rangesForgets", fn := fun _ => fun
  | [d1, d2, d3] => { results := [.lit (.bool false)], args := [d1, d2, d3] }
  | _ => none }
def RangesForgetsWrongFalsely : Prop := rangesForgetsRow.holds Try.pinned (OpenSpec.ofChange rangesForgetsWrong)

/-- 'bifoldlaw21.RangesSpans': WHATEVER THE INPUT: true; the input reads as it did. -/
def rangesSpansSpec : ChangeSpec := { name := "rangesSpans", fn := fun _ => fun
  | [d1, d2, d3] => { results := [.lit (.bool true)], args := [d1, d2, d3] }
  | _ => none }
def rangesSpansRow : OpenClaim := { program := "ytbijoeemioeejaa", sum := "d83a91861b2db07a47e4b34a70f152837d6c1c7bcf26f84d7f72f9a7f893ba0a", func := "bifold/bifoldlaw21.RangesSpans", spec := "rangesSpans", inPlace := ["slices.overlaps[bifold/api.Range]"], unfollowed := true, recurses := true, apart := false }
def RangesSpansSaid : Prop := rangesSpansRow.holds Try.pinned (OpenSpec.ofChange rangesSpansSpec)

/-- ITS FALSE NEIGHBOUR: 'it returns false'. Refute it at one input. -/
def rangesSpansWrong : ChangeSpec := { name := "rangesSpans", fn := fun _ => fun
  | [d1, d2, d3] => { results := [.lit (.bool false)], args := [d1, d2, d3] }
  | _ => none }
def RangesSpansWrongFalsely : Prop := rangesSpansRow.holds Try.pinned (OpenSpec.ofChange rangesSpansWrong)

/- THE SECOND FORM. 'bulk': how many values and letters a reading holds, each counted each time it is reached (what is shared counts as often as it is met; a slice's spare places count too). A statement '..UptoSaid' is the law's where the arguments, and the package variables that the reading takes, are together of bulk at most 1048576: NARROWER than '..Said'. Prove '..Said' where nothing that the law and all that it calls make is longer than what came in: it says more and counts as full. Else prove '..UptoSaid'. A law counts once. -/
mutual
def uptoBulk {H : Type} : DataW H → Nat
  | .lit (.string bytes) => bytes.length + 1
  | .lit _ => 1
  | .nil => 1
  | .ptr d => uptoBulk d + 1
  | .slice elems spare => uptoBulkAll elems + uptoBulkAll spare + 1
  | .agg parts => uptoBulkAll parts + 1
  | .iface _ d => uptoBulk d + 1
  | .map entries => uptoBulkEntries entries + 1
  | .held _ => 1
def uptoBulkAll {H : Type} : List (DataW H) → Nat
  | [] => 0
  | d :: r => uptoBulk d + uptoBulkAll r
def uptoBulkEntries {H : Type} : List (Lit × DataW H) → Nat
  | [] => 0
  | x :: r => uptoBulkEntry x + uptoBulkEntries r
def uptoBulkEntry {H : Type} : Lit × DataW H → Nat
  | (.string bytes, d) => bytes.length + uptoBulk d + 1
  | (_, d) => uptoBulk d + 1
 end
def uptoSmall : (H : Type) → List (DataW H) → Bool := fun _ ds => decide (uptoBulkAll ds ≤ 1048576)
def OpenSpec.upto (s : _root_.Go.ChangeSpec) : _root_.Go.OpenSpec := { _root_.Go.OpenSpec.ofChange s with cond := some uptoSmall }

/-- 'bifoldlaw21.RangesPlays', WHERE WHAT IT READS IS OF BULK AT MOST 1048576: true; the input reads as it did. -/
def rangesPlaysUptoRow : OpenClaim := { program := "ytbijoeemioeejaa", sum := "d83a91861b2db07a47e4b34a70f152837d6c1c7bcf26f84d7f72f9a7f893ba0a", func := "bifold/bifoldlaw21.RangesPlays", spec := "rangesPlays", inPlace := ["slices.overlaps[bifold/api.Range]"], unfollowed := true, recurses := true, apart := false, narrowed := true }
def RangesPlaysUptoSaid : Prop := rangesPlaysUptoRow.holds Try.pinned (OpenSpec.upto rangesPlaysSpec)

/-- 'bifoldlaw21.RangesTurned', WHERE WHAT IT READS IS OF BULK AT MOST 1048576: true; the input reads as it did. -/
def rangesTurnedUptoRow : OpenClaim := { program := "ytbijoeemioeejaa", sum := "d83a91861b2db07a47e4b34a70f152837d6c1c7bcf26f84d7f72f9a7f893ba0a", func := "bifold/bifoldlaw21.RangesTurned", spec := "rangesTurned", inPlace := ["slices.overlaps[bifold/api.Range]"], unfollowed := true, recurses := true, apart := false, narrowed := true }
def RangesTurnedUptoSaid : Prop := rangesTurnedUptoRow.holds Try.pinned (OpenSpec.upto rangesTurnedSpec)

/-- 'bifoldlaw21.RangesForgets', WHERE WHAT IT READS IS OF BULK AT MOST 1048576: true; the input reads as it did. -/
def rangesForgetsUptoRow : OpenClaim := { program := "ytbijoeemioeejaa", sum := "d83a91861b2db07a47e4b34a70f152837d6c1c7bcf26f84d7f72f9a7f893ba0a", func := "bifold/bifoldlaw21.RangesForgets", spec := "rangesForgets", inPlace := ["slices.overlaps[bifold/api.Range]"], unfollowed := true, recurses := true, apart := false, narrowed := true }
def RangesForgetsUptoSaid : Prop := rangesForgetsUptoRow.holds Try.pinned (OpenSpec.upto rangesForgetsSpec)

/-- 'bifoldlaw21.RangesSpans', WHERE WHAT IT READS IS OF BULK AT MOST 1048576: true; the input reads as it did. -/
def rangesSpansUptoRow : OpenClaim := { program := "ytbijoeemioeejaa", sum := "d83a91861b2db07a47e4b34a70f152837d6c1c7bcf26f84d7f72f9a7f893ba0a", func := "bifold/bifoldlaw21.RangesSpans", spec := "rangesSpans", inPlace := ["slices.overlaps[bifold/api.Range]"], unfollowed := true, recurses := true, apart := false, narrowed := true }
def RangesSpansUptoSaid : Prop := rangesSpansUptoRow.holds Try.pinned (OpenSpec.upto rangesSpansSpec)

end Rows
end Go.Proofs.Ytbijoeemioeejaa
