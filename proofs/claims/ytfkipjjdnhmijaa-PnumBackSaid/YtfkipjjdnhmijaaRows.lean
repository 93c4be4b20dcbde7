/-
  No cell of these rows narrows 'for every input' (looked for: loops, veiled, ifaces, maps, wideKeys, modest, calm, conditions, laid).
  DERIVED. THE GIVEN ROWS OF THIS SEAT. 4 by the template 'for every input the law returns true; each argument reads behind the call as it read before'; 0 by the template 'total and deterministic' (their statements: YtfkipjjdnhmijaaTotals.lean).
  GIVEN WITH THE SEED: the statements are not yours to turn. If you find one false, say at which input.
  Laid BY PROGRAM, IN A SANDBOX (cutbox-rows.mjs): the forced cells as the released guide's own fill.sh prints them over the translation bb426dfd0c348998… (all of the seat's roots in one cut). By AI agents, Wed Nov 11 2026. No macro, syntax, notation, axiom, sorry.
-/
import Derived.Test.YtfkipjjdnhmijaaChecked
import GoSem.Claim
import GoSem.ClaimJoined
import GoSem.ClaimMapViews
import Derived.JoinedTies
import Derived.KernelRfl
namespace Go.Proofs.Ytfkipjjdnhmijaa
/- THE CELL 'sum', in the pinned program and in every row, IS THE sha256 OF THE DUMP (.gsa) THAT YtfkipjjdnhmijaaProg.lean LOADS. Nothing in Lean hashes anything: it is a label: what it is worth is what the hold of that sum in a sandbox is worth. -/
noncomputable def Try.pinned : Pinned := { name := "ytfkipjjdnhmijaa", sum := "bb426dfd0c34899800fdbe5a8b7e760b0da18c0f1052d0b631ec39787c2311db", checked := Try.checked }
namespace Rows
def none {H : Type} : Left H := { results := [], args := [] }

/-- 'bifoldlaw17.PnumTells': WHATEVER THE INPUT: true; the input reads as it did. -/
def pnumTellsSpec : ChangeSpec := { name := "pnumTells", fn := fun _ => fun
  | [d1, d2, d3] => { results := [.lit (.bool true)], args := [d1, d2, d3] }
  | _ => none }
def pnumTellsRow : OpenClaim := { program := "ytfkipjjdnhmijaa", sum := "bb426dfd0c34899800fdbe5a8b7e760b0da18c0f1052d0b631ec39787c2311db", func := "bifold/bifoldlaw17.PnumTells", spec := "pnumTells", apart := false }
def PnumTellsSaid : Prop := pnumTellsRow.holds Try.pinned (OpenSpec.ofChange pnumTellsSpec)

/-- ITS FALSE NEIGHBOUR: 'it returns false'. Refute it at one input. -/
def pnumTellsWrong : ChangeSpec := { name := "pnumTells", fn := fun _ => fun
  | [d1, d2, d3] => { results := [.lit (.bool false)], args := [d1, d2, d3] }
  | _ => none }
def PnumTellsWrongFalsely : Prop := pnumTellsRow.holds Try.pinned (OpenSpec.ofChange pnumTellsWrong)

/-- 'bifoldlaw17.PnumBack': WHATEVER THE INPUT: true; the input reads as it did. -/
def pnumBackSpec : ChangeSpec := { name := "pnumBack", fn := fun _ => fun
  | [d1, d2, d3] => { results := [.lit (.bool true)], args := [d1, d2, d3] }
  | _ => none }
def pnumBackRow : OpenClaim := { program := "ytfkipjjdnhmijaa", sum := "bb426dfd0c34899800fdbe5a8b7e760b0da18c0f1052d0b631ec39787c2311db", func := "bifold/bifoldlaw17.PnumBack", spec := "pnumBack", apart := false }
def PnumBackSaid : Prop := pnumBackRow.holds Try.pinned (OpenSpec.ofChange pnumBackSpec)

/-- ITS FALSE NEIGHBOUR: 'it returns false'. Refute it at one input. -/
def pnumBackWrong : ChangeSpec := { name := "pnumBack", fn := fun _ => fun
  | [d1, d2, d3] => { results := [.lit (.bool false)], args := [d1, d2, d3] }
  | _ => none }
def PnumBackWrongFalsely : Prop := pnumBackRow.holds Try.pinned (OpenSpec.ofChange pnumBackWrong)

/-- 'bifoldlaw17.PnumNear': WHATEVER THE INPUT: true; the input reads as it did. -/
def pnumNearSpec : ChangeSpec := { name := "pnumNear", fn := fun _ => fun
  | [d1, d2, d3] => { results := [.lit (.bool true)], args := [d1, d2, d3] }
  | _ => none }
def pnumNearRow : OpenClaim := { program := "ytfkipjjdnhmijaa", sum := "bb426dfd0c34899800fdbe5a8b7e760b0da18c0f1052d0b631ec39787c2311db", func := "bifold/bifoldlaw17.PnumNear", spec := "pnumNear", apart := false }
def PnumNearSaid : Prop := pnumNearRow.holds Try.pinned (OpenSpec.ofChange pnumNearSpec)

/-- ITS FALSE NEIGHBOUR: 'it returns false'. Refute it at one input. -/
def pnumNearWrong : ChangeSpec := { name := "pnumNear", fn := fun _ => fun
  | [d1, d2, d3] => { results := [.lit (.bool false)], args := [d1, d2, d3] }
  | _ => none }
def PnumNearWrongFalsely : Prop := pnumNearRow.holds Try.pinned (OpenSpec.ofChange pnumNearWrong)

/-- 'bifoldlaw17.PnumLens': WHATEVER THE INPUT: true; the input reads as it did. -/
def pnumLensSpec : ChangeSpec := { name := "pnumLens", fn := fun _ => fun
  | [d1, d2, d3] => { results := [.lit (.bool true)], args := [d1, d2, d3] }
  | _ => none }
def pnumLensRow : OpenClaim := { program := "ytfkipjjdnhmijaa", sum := "bb426dfd0c34899800fdbe5a8b7e760b0da18c0f1052d0b631ec39787c2311db", func := "bifold/bifoldlaw17.PnumLens", spec := "pnumLens", apart := false }
def PnumLensSaid : Prop := pnumLensRow.holds Try.pinned (OpenSpec.ofChange pnumLensSpec)

/-- ITS FALSE NEIGHBOUR: 'it returns false'. Refute it at one input. -/
def pnumLensWrong : ChangeSpec := { name := "pnumLens", fn := fun _ => fun
  | [d1, d2, d3] => { results := [.lit (.bool false)], args := [d1, d2, d3] }
  | _ => none }
def PnumLensWrongFalsely : Prop := pnumLensRow.holds Try.pinned (OpenSpec.ofChange pnumLensWrong)

/- THE SECOND FORM. 'bulk': how many values and letters a reading holds, each counted each time it is reached (what is shared counts as often as it is met; a slice's spare places count too). A statement '..UptoSaid' is the law's where the arguments, and the package variables that the reading takes, are together of bulk at most 1048576: NARROWER than '..Said'. Prove '..Said' where nothing that the law and all that it calls make is longer than what came in: it says more and counts as full. Else prove '..UptoSaid'. A law counts once. -/
mutual
def uptoBulk {H : Type} : DataW H → Nat
  | .lit (.string bytes) => bytes.length + 1
  | .lit _ => 1
  | .nil => 1
  | .ptr d => uptoBulk d + 1
  | .slice elems spare => uptoBulkAll elems + uptoBulkAll spare + 1
  | .agg parts => uptoBulkAll parts + 1
  | .iface _ d => uptoBulk d + 1
  | .map entries => uptoBulkEntries entries + 1
  | .held _ => 1
def uptoBulkAll {H : Type} : List (DataW H) → Nat
  | [] => 0
  | d :: r => uptoBulk d + uptoBulkAll r
def uptoBulkEntries {H : Type} : List (Lit × DataW H) → Nat
  | [] => 0
  | x :: r => uptoBulkEntry x + uptoBulkEntries r
def uptoBulkEntry {H : Type} : Lit × DataW H → Nat
  | (.string bytes, d) => bytes.length + uptoBulk d + 1
  | (_, d) => uptoBulk d + 1
 end
def uptoSmall : (H : Type) → List (DataW H) → Bool := fun _ ds => decide (uptoBulkAll ds ≤ 1048576)
def OpenSpec.upto (s : _root_.Go.ChangeSpec) : _root_.Go.OpenSpec := { _root_.Go.OpenSpec.ofChange s with cond := some uptoSmall }

/-- 'bifoldlaw17.PnumTells', WHERE WHAT IT READS IS OF BULK AT MOST 1048576: true; the input reads as it did. -/
def pnumTellsUptoRow : OpenClaim := { program := "ytfkipjjdnhmijaa", sum := "bb426dfd0c34899800fdbe5a8b7e760b0da18c0f1052d0b631ec39787c2311db", func := "bifold/bifoldlaw17.PnumTells", spec := "pnumTells", apart := false, narrowed := true }
def PnumTellsUptoSaid : Prop := pnumTellsUptoRow.holds Try.pinned (OpenSpec.upto pnumTellsSpec)

/-- 'bifoldlaw17.PnumBack', WHERE WHAT IT READS IS OF BULK AT MOST 1048576: true; the input reads as it did. -/
def pnumBackUptoRow : OpenClaim := { program := "ytfkipjjdnhmijaa", sum := "bb426dfd0c34899800fdbe5a8b7e760b0da18c0f1052d0b631ec39787c2311db", func := "bifold/bifoldlaw17.PnumBack", spec := "pnumBack", apart := false, narrowed := true }
def PnumBackUptoSaid : Prop := pnumBackUptoRow.holds Try.pinned (OpenSpec.upto pnumBackSpec)

/-- 'bifoldlaw17.PnumNear', WHERE WHAT IT READS IS OF BULK AT MOST 1048576: true; the input reads as it did. -/
def pnumNearUptoRow : OpenClaim := { program := "ytfkipjjdnhmijaa", sum := "bb426dfd0c34899800fdbe5a8b7e760b0da18c0f1052d0b631ec39787c2311db", func := "bifold/bifoldlaw17.PnumNear", spec := "pnumNear", apart := false, narrowed := true }
def PnumNearUptoSaid : Prop := pnumNearUptoRow.holds Try.pinned (OpenSpec.upto pnumNearSpec)

/-- 'bifoldlaw17.PnumLens', WHERE WHAT IT READS IS OF BULK AT MOST 1048576: true; the input reads as it did. -/
def pnumLensUptoRow : OpenClaim := { program := "ytfkipjjdnhmijaa", sum := "bb426dfd0c34899800fdbe5a8b7e760b0da18c0f1052d0b631ec39787c2311db", func := "bifold/bifoldlaw17.PnumLens", spec := "pnumLens", apart := false, narrowed := true }
def PnumLensUptoSaid : Prop := pnumLensUptoRow.holds Try.pinned (OpenSpec.upto pnumLensSpec)

end Rows
end Go.Proofs.Ytfkipjjdnhmijaa
