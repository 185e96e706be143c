/-
  No cell of these rows narrows 'for every input' (looked for: loops, veiled, ifaces, maps, wideKeys, modest, calm, conditions, laid).
  DERIVED. THE GIVEN ROWS OF THIS SEAT. 6 by the template 'for every input the law returns true; each argument reads behind the call as it read before'; 0 by the template 'total and deterministic' (their statements: YtmgemjogelcghaaTotals.lean).
  GIVEN WITH THE SEED: the statements are not yours to turn. If you find one false, say at which input.
  Laid BY PROGRAM, IN A SANDBOX (cutbox-rows.mjs): the forced cells as the released guide's own fill.sh prints them over the translation a9563f34b2ce910f… (all of the seat's roots in one cut). By AI agents, Wed Nov 11 2026. No macro, syntax, notation, axiom, sorry.
-/
import Derived.Test.YtmgemjogelcghaaChecked
import GoSem.Claim
import GoSem.ClaimJoined
import GoSem.ClaimMapViews
import Derived.JoinedTies
import Derived.KernelRfl
namespace Go.Proofs.Ytmgemjogelcghaa
/- THE CELL 'sum', in the pinned program and in every row, IS THE sha256 OF THE DUMP (.gsa) THAT YtmgemjogelcghaaProg.lean LOADS. Nothing in Lean hashes anything: it is a label: what it is worth is what the hold of that sum in a sandbox is worth. -/
noncomputable def Try.pinned : Pinned := { name := "ytmgemjogelcghaa", sum := "a9563f34b2ce910f55ec6cc4fd5c78b906d5044959c9b795dd773f34817d988b", checked := Try.checked }
namespace Rows
def none {H : Type} : Left H := { results := [], args := [] }

/-- 'laws.FnExactContourOk': WHATEVER THE INPUT: true; the input reads as it did. -/
def fnExactContourOkSpec : ChangeSpec := { name := "fnExactContourOk", fn := fun _ => fun
  | [d] => { results := [.lit (.bool true)], args := [d] }
  | _ => none }
def fnExactContourOkRow : OpenClaim := { program := "ytmgemjogelcghaa", sum := "a9563f34b2ce910f55ec6cc4fd5c78b906d5044959c9b795dd773f34817d988b", func := "loop.example/g03309/laws.FnExactContourOk", spec := "fnExactContourOk", apart := false }
def FnExactContourOkSaid : Prop := fnExactContourOkRow.holds Try.pinned (OpenSpec.ofChange fnExactContourOkSpec)

/-- ITS FALSE NEIGHBOUR: 'it returns false'. Refute it at one input. -/
def fnExactContourOkWrong : ChangeSpec := { name := "fnExactContourOk", fn := fun _ => fun
  | [d] => { results := [.lit (.bool false)], args := [d] }
  | _ => none }
def FnExactContourOkWrongFalsely : Prop := fnExactContourOkRow.holds Try.pinned (OpenSpec.ofChange fnExactContourOkWrong)

/-- 'laws.FnExactMajorScale': WHATEVER THE INPUT: true; the input reads as it did. -/
def fnExactMajorScaleSpec : ChangeSpec := { name := "fnExactMajorScale", fn := fun _ => fun
  | [d] => { results := [.lit (.bool true)], args := [d] }
  | _ => none }
def fnExactMajorScaleRow : OpenClaim := { program := "ytmgemjogelcghaa", sum := "a9563f34b2ce910f55ec6cc4fd5c78b906d5044959c9b795dd773f34817d988b", func := "loop.example/g03309/laws.FnExactMajorScale", spec := "fnExactMajorScale", apart := false }
def FnExactMajorScaleSaid : Prop := fnExactMajorScaleRow.holds Try.pinned (OpenSpec.ofChange fnExactMajorScaleSpec)

/-- ITS FALSE NEIGHBOUR: 'it returns false'. Refute it at one input. -/
def fnExactMajorScaleWrong : ChangeSpec := { name := "fnExactMajorScale", fn := fun _ => fun
  | [d] => { results := [.lit (.bool false)], args := [d] }
  | _ => none }
def FnExactMajorScaleWrongFalsely : Prop := fnExactMajorScaleRow.holds Try.pinned (OpenSpec.ofChange fnExactMajorScaleWrong)

/-- 'laws.FnExactRotateScale': WHATEVER THE INPUT: true; the input reads as it did. -/
def fnExactRotateScaleSpec : ChangeSpec := { name := "fnExactRotateScale", fn := fun _ => fun
  | [d1, d2] => { results := [.lit (.bool true)], args := [d1, d2] }
  | _ => none }
def fnExactRotateScaleRow : OpenClaim := { program := "ytmgemjogelcghaa", sum := "a9563f34b2ce910f55ec6cc4fd5c78b906d5044959c9b795dd773f34817d988b", func := "loop.example/g03309/laws.FnExactRotateScale", spec := "fnExactRotateScale", apart := false }
def FnExactRotateScaleSaid : Prop := fnExactRotateScaleRow.holds Try.pinned (OpenSpec.ofChange fnExactRotateScaleSpec)

/-- ITS FALSE NEIGHBOUR: 'it returns false'. Refute it at one input. -/
def fnExactRotateScaleWrong : ChangeSpec := { name := "fnExactRotateScale", fn := fun _ => fun
  | [d1, d2] => { results := [.lit (.bool false)], args := [d1, d2] }
  | _ => none }
def FnExactRotateScaleWrongFalsely : Prop := fnExactRotateScaleRow.holds Try.pinned (OpenSpec.ofChange fnExactRotateScaleWrong)

/-- 'laws.FnExactMoveCost': WHATEVER THE INPUT: true; the input reads as it did. -/
def fnExactMoveCostSpec : ChangeSpec := { name := "fnExactMoveCost", fn := fun _ => fun
  | [d1, d2, d3] => { results := [.lit (.bool true)], args := [d1, d2, d3] }
  | _ => none }
def fnExactMoveCostRow : OpenClaim := { program := "ytmgemjogelcghaa", sum := "a9563f34b2ce910f55ec6cc4fd5c78b906d5044959c9b795dd773f34817d988b", func := "loop.example/g03309/laws.FnExactMoveCost", spec := "fnExactMoveCost", apart := false }
def FnExactMoveCostSaid : Prop := fnExactMoveCostRow.holds Try.pinned (OpenSpec.ofChange fnExactMoveCostSpec)

/-- ITS FALSE NEIGHBOUR: 'it returns false'. Refute it at one input. -/
def fnExactMoveCostWrong : ChangeSpec := { name := "fnExactMoveCost", fn := fun _ => fun
  | [d1, d2, d3] => { results := [.lit (.bool false)], args := [d1, d2, d3] }
  | _ => none }
def FnExactMoveCostWrongFalsely : Prop := fnExactMoveCostRow.holds Try.pinned (OpenSpec.ofChange fnExactMoveCostWrong)

/-- 'laws.FnExactSpreadBeats': WHATEVER THE INPUT: true; the input reads as it did. -/
def fnExactSpreadBeatsSpec : ChangeSpec := { name := "fnExactSpreadBeats", fn := fun _ => fun
  | [d1, d2] => { results := [.lit (.bool true)], args := [d1, d2] }
  | _ => none }
def fnExactSpreadBeatsRow : OpenClaim := { program := "ytmgemjogelcghaa", sum := "a9563f34b2ce910f55ec6cc4fd5c78b906d5044959c9b795dd773f34817d988b", func := "loop.example/g03309/laws.FnExactSpreadBeats", spec := "fnExactSpreadBeats", apart := false }
def FnExactSpreadBeatsSaid : Prop := fnExactSpreadBeatsRow.holds Try.pinned (OpenSpec.ofChange fnExactSpreadBeatsSpec)

/-- ITS FALSE NEIGHBOUR: 'it returns false'. Refute it at one input. -/
def fnExactSpreadBeatsWrong : ChangeSpec := { name := "fnExactSpreadBeats", fn := fun _ => fun
  | [d1, d2] => { results := [.lit (.bool false)], args := [d1, d2] }
  | _ => none }
def FnExactSpreadBeatsWrongFalsely : Prop := fnExactSpreadBeatsRow.holds Try.pinned (OpenSpec.ofChange fnExactSpreadBeatsWrong)

/-- 'laws.FnExactTurnContour': WHATEVER THE INPUT: true; the input reads as it did. -/
def fnExactTurnContourSpec : ChangeSpec := { name := "fnExactTurnContour", fn := fun _ => fun
  | [d] => { results := [.lit (.bool true)], args := [d] }
  | _ => none }
def fnExactTurnContourRow : OpenClaim := { program := "ytmgemjogelcghaa", sum := "a9563f34b2ce910f55ec6cc4fd5c78b906d5044959c9b795dd773f34817d988b", func := "loop.example/g03309/laws.FnExactTurnContour", spec := "fnExactTurnContour", apart := false }
def FnExactTurnContourSaid : Prop := fnExactTurnContourRow.holds Try.pinned (OpenSpec.ofChange fnExactTurnContourSpec)

/-- ITS FALSE NEIGHBOUR: 'it returns false'. Refute it at one input. -/
def fnExactTurnContourWrong : ChangeSpec := { name := "fnExactTurnContour", fn := fun _ => fun
  | [d] => { results := [.lit (.bool false)], args := [d] }
  | _ => none }
def FnExactTurnContourWrongFalsely : Prop := fnExactTurnContourRow.holds Try.pinned (OpenSpec.ofChange fnExactTurnContourWrong)

/- THE SECOND FORM. 'bulk': how many values and letters a reading holds, each counted each time it is reached (what is shared counts as often as it is met; a slice's spare places count too). A statement '..UptoSaid' is the law's where the arguments, and the package variables that the reading takes, are together of bulk at most 1048576: NARROWER than '..Said'. Prove '..Said' where nothing that the law and all that it calls make is longer than what came in: it says more and counts as full. Else prove '..UptoSaid'. A law counts once. -/
mutual
def uptoBulk {H : Type} : DataW H → Nat
  | .lit (.string bytes) => bytes.length + 1
  | .lit _ => 1
  | .nil => 1
  | .ptr d => uptoBulk d + 1
  | .slice elems spare => uptoBulkAll elems + uptoBulkAll spare + 1
  | .agg parts => uptoBulkAll parts + 1
  | .iface _ d => uptoBulk d + 1
  | .map entries => uptoBulkEntries entries + 1
  | .held _ => 1
def uptoBulkAll {H : Type} : List (DataW H) → Nat
  | [] => 0
  | d :: r => uptoBulk d + uptoBulkAll r
def uptoBulkEntries {H : Type} : List (Lit × DataW H) → Nat
  | [] => 0
  | x :: r => uptoBulkEntry x + uptoBulkEntries r
def uptoBulkEntry {H : Type} : Lit × DataW H → Nat
  | (.string bytes, d) => bytes.length + uptoBulk d + 1
  | (_, d) => uptoBulk d + 1
 end
def uptoSmall : (H : Type) → List (DataW H) → Bool := fun _ ds => decide (uptoBulkAll ds ≤ 1048576)
def OpenSpec.upto (s : _root_.Go.ChangeSpec) : _root_.Go.OpenSpec := { _root_.Go.OpenSpec.ofChange s with cond := some uptoSmall }

/-- 'laws.FnExactContourOk', WHERE WHAT IT READS IS OF BULK AT MOST 1048576: true; the input reads as it did. -/
def fnExactContourOkUptoRow : OpenClaim := { program := "ytmgemjogelcghaa", sum := "a9563f34b2ce910f55ec6cc4fd5c78b906d5044959c9b795dd773f34817d988b", func := "loop.example/g03309/laws.FnExactContourOk", spec := "fnExactContourOk", apart := false, narrowed := true }
def FnExactContourOkUptoSaid : Prop := fnExactContourOkUptoRow.holds Try.pinned (OpenSpec.upto fnExactContourOkSpec)

/-- 'laws.FnExactMajorScale', WHERE WHAT IT READS IS OF BULK AT MOST 1048576: true; the input reads as it did. -/
def fnExactMajorScaleUptoRow : OpenClaim := { program := "ytmgemjogelcghaa", sum := "a9563f34b2ce910f55ec6cc4fd5c78b906d5044959c9b795dd773f34817d988b", func := "loop.example/g03309/laws.FnExactMajorScale", spec := "fnExactMajorScale", apart := false, narrowed := true }
def FnExactMajorScaleUptoSaid : Prop := fnExactMajorScaleUptoRow.holds Try.pinned (OpenSpec.upto fnExactMajorScaleSpec)

/-- 'laws.FnExactRotateScale', WHERE WHAT IT READS IS OF BULK AT MOST 1048576: true; the input reads as it did. -/
def fnExactRotateScaleUptoRow : OpenClaim := { program := "ytmgemjogelcghaa", sum := "a9563f34b2ce910f55ec6cc4fd5c78b906d5044959c9b795dd773f34817d988b", func := "loop.example/g03309/laws.FnExactRotateScale", spec := "fnExactRotateScale", apart := false, narrowed := true }
def FnExactRotateScaleUptoSaid : Prop := fnExactRotateScaleUptoRow.holds Try.pinned (OpenSpec.upto fnExactRotateScaleSpec)

/-- 'laws.FnExactMoveCost', WHERE WHAT IT READS IS OF BULK AT MOST 1048576: true; the input reads as it did. -/
def fnExactMoveCostUptoRow : OpenClaim := { program := "ytmgemjogelcghaa", sum := "a9563f34b2ce910f55ec6cc4fd5c78b906d5044959c9b795dd773f34817d988b", func := "loop.example/g03309/laws.FnExactMoveCost", spec := "fnExactMoveCost", apart := false, narrowed := true }
def FnExactMoveCostUptoSaid : Prop := fnExactMoveCostUptoRow.holds Try.pinned (OpenSpec.upto fnExactMoveCostSpec)

/-- 'laws.FnExactSpreadBeats', WHERE WHAT IT READS IS OF BULK AT MOST 1048576: true; the input reads as it did. -/
def fnExactSpreadBeatsUptoRow : OpenClaim := { program := "ytmgemjogelcghaa", sum := "a9563f34b2ce910f55ec6cc4fd5c78b906d5044959c9b795dd773f34817d988b", func := "loop.example/g03309/laws.FnExactSpreadBeats", spec := "fnExactSpreadBeats", apart := false, narrowed := true }
def FnExactSpreadBeatsUptoSaid : Prop := fnExactSpreadBeatsUptoRow.holds Try.pinned (OpenSpec.upto fnExactSpreadBeatsSpec)

/-- 'laws.FnExactTurnContour', WHERE WHAT IT READS IS OF BULK AT MOST 1048576: true; the input reads as it did. -/
def fnExactTurnContourUptoRow : OpenClaim := { program := "ytmgemjogelcghaa", sum := "a9563f34b2ce910f55ec6cc4fd5c78b906d5044959c9b795dd773f34817d988b", func := "loop.example/g03309/laws.FnExactTurnContour", spec := "fnExactTurnContour", apart := false, narrowed := true }
def FnExactTurnContourUptoSaid : Prop := fnExactTurnContourUptoRow.holds Try.pinned (OpenSpec.upto fnExactTurnContourSpec)

end Rows
end Go.Proofs.Ytmgemjogelcghaa
