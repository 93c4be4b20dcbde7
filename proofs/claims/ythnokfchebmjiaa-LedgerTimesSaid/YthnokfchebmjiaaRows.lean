/-
  No cell of these rows narrows 'for every input' (looked for: loops, veiled, ifaces, maps, wideKeys, modest, calm, conditions, laid).
  DERIVED. THE GIVEN ROWS OF THIS SEAT. 4 by the template 'for every input the law returns true; each argument reads behind the call as it read before'; 0 by the template 'total and deterministic' (their statements: YthnokfchebmjiaaTotals.lean).
  GIVEN WITH THE SEED: the statements are not yours to turn. If you find one false, say at which input.
  Laid BY PROGRAM, IN A SANDBOX (cutbox-rows.mjs): the forced cells as the released guide's own fill.sh prints them over the translation 235b75d470b2b74c… (all of the seat's roots in one cut). By AI agents, Wed Nov 11 2026. No macro, syntax, notation, axiom, sorry.
-/
import Derived.Test.YthnokfchebmjiaaChecked
import GoSem.Claim
import GoSem.ClaimJoined
import GoSem.ClaimMapViews
import Derived.JoinedTies
import Derived.KernelRfl
namespace Go.Proofs.Ythnokfchebmjiaa
/- THE CELL 'sum', in the pinned program and in every row, IS THE sha256 OF THE DUMP (.gsa) THAT YthnokfchebmjiaaProg.lean LOADS. Nothing in Lean hashes anything: it is a label: what it is worth is what the hold of that sum in a sandbox is worth. -/
noncomputable def Try.pinned : Pinned := { name := "ythnokfchebmjiaa", sum := "235b75d470b2b74c0410ac9c119407da1e9fa322b0db1e8c15cf72d4059cd374", checked := Try.checked }
namespace Rows
def none {H : Type} : Left H := { results := [], args := [] }

/-- 'bifoldlaw22.LedgerTimes': WHATEVER THE INPUT: true; the input reads as it did. -/
def ledgerTimesSpec : ChangeSpec := { name := "ledgerTimes", fn := fun _ => fun
  | [d1, d2] => { results := [.lit (.bool true)], args := [d1, d2] }
  | _ => none }
def ledgerTimesRow : OpenClaim := { program := "ythnokfchebmjiaa", sum := "235b75d470b2b74c0410ac9c119407da1e9fa322b0db1e8c15cf72d4059cd374", func := "bifold/bifoldlaw22.LedgerTimes", spec := "ledgerTimes", inPlace := ["slices.overlaps[bifold/api.Range]"], unfollowed := true, recurses := true, apart := false }
def LedgerTimesSaid : Prop := ledgerTimesRow.holds Try.pinned (OpenSpec.ofChange ledgerTimesSpec)

/-- ITS FALSE NEIGHBOUR: 'it returns false'. Refute it at one input. -/
def ledgerTimesWrong : ChangeSpec := { name := "ledgerTimes", fn := fun _ => fun
  | [d1, d2] => { results := [.lit (.bool false)], args := [d1, d2] }
  | _ => none }
def LedgerTimesWrongFalsely : Prop := ledgerTimesRow.holds Try.pinned (OpenSpec.ofChange ledgerTimesWrong)

/-- 'bifoldlaw22.LedgerFar': WHATEVER THE INPUT: true; the input reads as it did. -/
def ledgerFarSpec : ChangeSpec := { name := "ledgerFar", fn := fun _ => fun
  | [d1, d2, d3] => { results := [.lit (.bool true)], args := [d1, d2, d3] }
  | _ => none }
def ledgerFarRow : OpenClaim := { program := "ythnokfchebmjiaa", sum := "235b75d470b2b74c0410ac9c119407da1e9fa322b0db1e8c15cf72d4059cd374", func := "bifold/bifoldlaw22.LedgerFar", spec := "ledgerFar", inPlace := ["slices.overlaps[bifold/api.Range]"], unfollowed := true, recurses := true, apart := false }
def LedgerFarSaid : Prop := ledgerFarRow.holds Try.pinned (OpenSpec.ofChange ledgerFarSpec)

/-- ITS FALSE NEIGHBOUR: 'it returns false'. Refute it at one input. -/
def ledgerFarWrong : ChangeSpec := { name := "ledgerFar", fn := fun _ => fun
  | [d1, d2, d3] => { results := [.lit (.bool false)], args := [d1, d2, d3] }
  | _ => none }
def LedgerFarWrongFalsely : Prop := ledgerFarRow.holds Try.pinned (OpenSpec.ofChange ledgerFarWrong)

/-- 'bifoldlaw22.LedgerOnce': WHATEVER THE INPUT: true; the input reads as it did. -/
def ledgerOnceSpec : ChangeSpec := { name := "ledgerOnce", fn := fun _ => fun
  | [d] => { results := [.lit (.bool true)], args := [d] }
  | _ => none }
def ledgerOnceRow : OpenClaim := { program := "ythnokfchebmjiaa", sum := "235b75d470b2b74c0410ac9c119407da1e9fa322b0db1e8c15cf72d4059cd374", func := "bifold/bifoldlaw22.LedgerOnce", spec := "ledgerOnce", inPlace := ["slices.overlaps[bifold/api.Range]"], unfollowed := true, recurses := true, apart := false }
def LedgerOnceSaid : Prop := ledgerOnceRow.holds Try.pinned (OpenSpec.ofChange ledgerOnceSpec)

/-- ITS FALSE NEIGHBOUR: 'it returns false'. Refute it at one input. -/
def ledgerOnceWrong : ChangeSpec := { name := "ledgerOnce", fn := fun _ => fun
  | [d] => { results := [.lit (.bool false)], args := [d] }
  | _ => none }
def LedgerOnceWrongFalsely : Prop := ledgerOnceRow.holds Try.pinned (OpenSpec.ofChange ledgerOnceWrong)

/-- 'bifoldlaw22.LedgerGaps': WHATEVER THE INPUT: true; the input reads as it did. -/
def ledgerGapsSpec : ChangeSpec := { name := "ledgerGaps", fn := fun _ => fun
  | [d1, d2, d3] => { results := [.lit (.bool true)], args := [d1, d2, d3] }
  | _ => none }
def ledgerGapsRow : OpenClaim := { program := "ythnokfchebmjiaa", sum := "235b75d470b2b74c0410ac9c119407da1e9fa322b0db1e8c15cf72d4059cd374", func := "bifold/bifoldlaw22.LedgerGaps", spec := "ledgerGaps", inPlace := ["slices.overlaps[bifold/api.Range]"], unfollowed := true, recurses := true, apart := false }
def LedgerGapsSaid : Prop := ledgerGapsRow.holds Try.pinned (OpenSpec.ofChange ledgerGapsSpec)

/-- ITS FALSE NEIGHBOUR: 'it returns false'. Refute it at one input. -/
def ledgerGapsWrong : ChangeSpec := { name := "ledgerGaps", fn := fun _ => fun
  | [d1, d2, d3] => { results := [.lit (.bool false)], args := [d1, d2, d3] }
  | _ => none }
def LedgerGapsWrongFalsely : Prop := ledgerGapsRow.holds Try.pinned (OpenSpec.ofChange ledgerGapsWrong)

/- THE SECOND FORM. 'bulk': how many values and letters a reading holds, each counted each time it is reached (what is shared counts as often as it is met; a slice's spare places count too). A statement '..UptoSaid' is the law's where the arguments, and the package variables that the reading takes, are together of bulk at most 1048576: NARROWER than '..Said'. Prove '..Said' where nothing that the law and all that it calls make is longer than what came in: it says more and counts as full. Else prove '..UptoSaid'. A law counts once. -/
mutual
def uptoBulk {H : Type} : DataW H → Nat
  | .lit (.string bytes) => bytes.length + 1
  | .lit _ => 1
  | .nil => 1
  | .ptr d => uptoBulk d + 1
  | .slice elems spare => uptoBulkAll elems + uptoBulkAll spare + 1
  | .agg parts => uptoBulkAll parts + 1
  | .iface _ d => uptoBulk d + 1
  | .map entries => uptoBulkEntries entries + 1
  | .held _ => 1
def uptoBulkAll {H : Type} : List (DataW H) → Nat
  | [] => 0
  | d :: r => uptoBulk d + uptoBulkAll r
def uptoBulkEntries {H : Type} : List (Lit × DataW H) → Nat
  | [] => 0
  | x :: r => uptoBulkEntry x + uptoBulkEntries r
def uptoBulkEntry {H : Type} : Lit × DataW H → Nat
  | (.string bytes, d) => bytes.length + uptoBulk d + 1
  | (_, d) => uptoBulk d + 1
 end
def uptoSmall : (H : Type) → List (DataW H) → Bool := fun _ ds => decide (uptoBulkAll ds ≤ 1048576)
def OpenSpec.upto (s : _root_.Go.ChangeSpec) : _root_.Go.OpenSpec := { _root_.Go.OpenSpec.ofChange s with cond := some uptoSmall }

/-- 'bifoldlaw22.LedgerTimes', WHERE WHAT IT READS IS OF BULK AT MOST 1048576: true; the input reads as it did. -/
def ledgerTimesUptoRow : OpenClaim := { program := "ythnokfchebmjiaa", sum := "235b75d470b2b74c0410ac9c119407da1e9fa322b0db1e8c15cf72d4059cd374", func := "bifold/bifoldlaw22.LedgerTimes", spec := "ledgerTimes", inPlace := ["slices.overlaps[bifold/api.Range]"], unfollowed := true, recurses := true, apart := false, narrowed := true }
def LedgerTimesUptoSaid : Prop := ledgerTimesUptoRow.holds Try.pinned (OpenSpec.upto ledgerTimesSpec)

/-- 'bifoldlaw22.LedgerFar', WHERE WHAT IT READS IS OF BULK AT MOST 1048576: true; the input reads as it did. -/
def ledgerFarUptoRow : OpenClaim := { program := "ythnokfchebmjiaa", sum := "235b75d470b2b74c0410ac9c119407da1e9fa322b0db1e8c15cf72d4059cd374", func := "bifold/bifoldlaw22.LedgerFar", spec := "ledgerFar", inPlace := ["slices.overlaps[bifold/api.Range]"], unfollowed := true, recurses := true, apart := false, narrowed := true }
def LedgerFarUptoSaid : Prop := ledgerFarUptoRow.holds Try.pinned (OpenSpec.upto ledgerFarSpec)

/-- 'bifoldlaw22.LedgerOnce', WHERE WHAT IT READS IS OF BULK AT MOST 1048576: true; the input reads as it did. -/
def ledgerOnceUptoRow : OpenClaim := { program := "ythnokfchebmjiaa", sum := "235b75d470b2b74c0410ac9c119407da1e9fa322b0db1e8c15cf72d4059cd374", func := "bifold/bifoldlaw22.LedgerOnce", spec := "ledgerOnce", inPlace := ["slices.overlaps[bifold/api.Range]"], unfollowed := true, recurses := true, apart := false, narrowed := true }
def LedgerOnceUptoSaid : Prop := ledgerOnceUptoRow.holds Try.pinned (OpenSpec.upto ledgerOnceSpec)

/-- 'bifoldlaw22.LedgerGaps', WHERE WHAT IT READS IS OF BULK AT MOST 1048576: true; the input reads as it did. -/
def ledgerGapsUptoRow : OpenClaim := { program := "ythnokfchebmjiaa", sum := "235b75d470b2b74c0410ac9c119407da1e9fa322b0db1e8c15cf72d4059cd374", func := "bifold/bifoldlaw22.LedgerGaps", spec := "ledgerGaps", inPlace := ["slices.overlaps[bifold/api.Range]"], unfollowed := true, recurses := true, apart := false, narrowed := true }
def LedgerGapsUptoSaid : Prop := ledgerGapsUptoRow.holds Try.pinned (OpenSpec.upto ledgerGapsSpec)

end Rows
end Go.Proofs.Ythnokfchebmjiaa
