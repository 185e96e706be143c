/-
  No cell of these rows narrows 'for every input' (looked for: loops, veiled, ifaces, maps, wideKeys, modest, calm, conditions, laid).
  DERIVED. THE GIVEN ROWS OF THIS SEAT. 12 by the template 'for every input the law returns true; each argument reads behind the call as it read before'; 0 by the template 'total and deterministic' (their statements: YtaofflohfpodfaaTotals.lean).
  GIVEN WITH THE SEED: the statements are not yours to turn. If you find one false, say at which input.
  Laid BY PROGRAM, IN A SANDBOX (cutbox-rows.mjs): the forced cells as the released guide's own fill.sh prints them over the translation 0d3fd5e8bf4e57c7… (all of the seat's roots in one cut). By AI agents, Wed Nov 11 2026. No macro, syntax, notation, axiom, sorry.
-/
import Derived.Test.YtaofflohfpodfaaChecked
import GoSem.Claim
import GoSem.ClaimJoined
import GoSem.ClaimMapViews
import Derived.JoinedTies
import Derived.KernelRfl
namespace Go.Proofs.Ytaofflohfpodfaa
/- THE CELL 'sum', in the pinned program and in every row, IS THE sha256 OF THE DUMP (.gsa) THAT YtaofflohfpodfaaProg.lean LOADS. Nothing in Lean hashes anything: it is a label: what it is worth is what the hold of that sum in a sandbox is worth. -/
noncomputable def Try.pinned : Pinned := { name := "ytaofflohfpodfaa", sum := "0d3fd5e8bf4e57c70044c9a1b9d6d2af522d227f64a19b1b2b48abcbab78f4fe", checked := Try.checked }
namespace Rows
def none {H : Type} : Left H := { results := [], args := [] }

/-- 'laws.FnExactContourOf': WHATEVER THE INPUT: true; the input reads as it did. -/
def fnExactContourOfSpec : ChangeSpec := { name := "fnExactContourOf", fn := fun _ => fun
  | [d] => { results := [.lit (.bool true)], args := [d] }
  | _ => none }
def fnExactContourOfRow : OpenClaim := { program := "ytaofflohfpodfaa", sum := "0d3fd5e8bf4e57c70044c9a1b9d6d2af522d227f64a19b1b2b48abcbab78f4fe", func := "loop.example/g03309/laws.FnExactContourOf", spec := "fnExactContourOf", apart := false }
def FnExactContourOfSaid : Prop := fnExactContourOfRow.holds Try.pinned (OpenSpec.ofChange fnExactContourOfSpec)

/-- ITS FALSE NEIGHBOUR: 'it returns false'. Refute it at one input. -/
def fnExactContourOfWrong : ChangeSpec := { name := "fnExactContourOf", fn := fun _ => fun
  | [d] => { results := [.lit (.bool false)], args := [d] }
  | _ => none }
def FnExactContourOfWrongFalsely : Prop := fnExactContourOfRow.holds Try.pinned (OpenSpec.ofChange fnExactContourOfWrong)

/-- 'laws.FnExactCommonPitches': WHATEVER THE INPUT: true; the input reads as it did. -/
def fnExactCommonPitchesSpec : ChangeSpec := { name := "fnExactCommonPitches", fn := fun _ => fun
  | [d1, d2] => { results := [.lit (.bool true)], args := [d1, d2] }
  | _ => none }
def fnExactCommonPitchesRow : OpenClaim := { program := "ytaofflohfpodfaa", sum := "0d3fd5e8bf4e57c70044c9a1b9d6d2af522d227f64a19b1b2b48abcbab78f4fe", func := "loop.example/g03309/laws.FnExactCommonPitches", spec := "fnExactCommonPitches", apart := false }
def FnExactCommonPitchesSaid : Prop := fnExactCommonPitchesRow.holds Try.pinned (OpenSpec.ofChange fnExactCommonPitchesSpec)

/-- ITS FALSE NEIGHBOUR: 'it returns false'. Refute it at one input. -/
def fnExactCommonPitchesWrong : ChangeSpec := { name := "fnExactCommonPitches", fn := fun _ => fun
  | [d1, d2] => { results := [.lit (.bool false)], args := [d1, d2] }
  | _ => none }
def FnExactCommonPitchesWrongFalsely : Prop := fnExactCommonPitchesRow.holds Try.pinned (OpenSpec.ofChange fnExactCommonPitchesWrong)

/-- 'laws.FnExactOccursAt': WHATEVER THE INPUT: true; the input reads as it did. -/
def fnExactOccursAtSpec : ChangeSpec := { name := "fnExactOccursAt", fn := fun _ => fun
  | [d1, d2, d3] => { results := [.lit (.bool true)], args := [d1, d2, d3] }
  | _ => none }
def fnExactOccursAtRow : OpenClaim := { program := "ytaofflohfpodfaa", sum := "0d3fd5e8bf4e57c70044c9a1b9d6d2af522d227f64a19b1b2b48abcbab78f4fe", func := "loop.example/g03309/laws.FnExactOccursAt", spec := "fnExactOccursAt", apart := false }
def FnExactOccursAtSaid : Prop := fnExactOccursAtRow.holds Try.pinned (OpenSpec.ofChange fnExactOccursAtSpec)

/-- ITS FALSE NEIGHBOUR: 'it returns false'. Refute it at one input. -/
def fnExactOccursAtWrong : ChangeSpec := { name := "fnExactOccursAt", fn := fun _ => fun
  | [d1, d2, d3] => { results := [.lit (.bool false)], args := [d1, d2, d3] }
  | _ => none }
def FnExactOccursAtWrongFalsely : Prop := fnExactOccursAtRow.holds Try.pinned (OpenSpec.ofChange fnExactOccursAtWrong)

/-- 'laws.FnExactMostSounding': WHATEVER THE INPUT: true; the input reads as it did. -/
def fnExactMostSoundingSpec : ChangeSpec := { name := "fnExactMostSounding", fn := fun _ => fun
  | [d1, d2] => { results := [.lit (.bool true)], args := [d1, d2] }
  | _ => none }
def fnExactMostSoundingRow : OpenClaim := { program := "ytaofflohfpodfaa", sum := "0d3fd5e8bf4e57c70044c9a1b9d6d2af522d227f64a19b1b2b48abcbab78f4fe", func := "loop.example/g03309/laws.FnExactMostSounding", spec := "fnExactMostSounding", apart := false }
def FnExactMostSoundingSaid : Prop := fnExactMostSoundingRow.holds Try.pinned (OpenSpec.ofChange fnExactMostSoundingSpec)

/-- ITS FALSE NEIGHBOUR: 'it returns false'. Refute it at one input. -/
def fnExactMostSoundingWrong : ChangeSpec := { name := "fnExactMostSounding", fn := fun _ => fun
  | [d1, d2] => { results := [.lit (.bool false)], args := [d1, d2] }
  | _ => none }
def FnExactMostSoundingWrongFalsely : Prop := fnExactMostSoundingRow.holds Try.pinned (OpenSpec.ofChange fnExactMostSoundingWrong)

/-- 'laws.FnExactPartOf': WHATEVER THE INPUT: true; the input reads as it did. -/
def fnExactPartOfSpec : ChangeSpec := { name := "fnExactPartOf", fn := fun _ => fun
  | [d1, d2, d3] => { results := [.lit (.bool true)], args := [d1, d2, d3] }
  | _ => none }
def fnExactPartOfRow : OpenClaim := { program := "ytaofflohfpodfaa", sum := "0d3fd5e8bf4e57c70044c9a1b9d6d2af522d227f64a19b1b2b48abcbab78f4fe", func := "loop.example/g03309/laws.FnExactPartOf", spec := "fnExactPartOf", apart := false }
def FnExactPartOfSaid : Prop := fnExactPartOfRow.holds Try.pinned (OpenSpec.ofChange fnExactPartOfSpec)

/-- ITS FALSE NEIGHBOUR: 'it returns false'. Refute it at one input. -/
def fnExactPartOfWrong : ChangeSpec := { name := "fnExactPartOf", fn := fun _ => fun
  | [d1, d2, d3] => { results := [.lit (.bool false)], args := [d1, d2, d3] }
  | _ => none }
def FnExactPartOfWrongFalsely : Prop := fnExactPartOfRow.holds Try.pinned (OpenSpec.ofChange fnExactPartOfWrong)

/-- 'laws.FnExactStepsUsed': WHATEVER THE INPUT: true; the input reads as it did. -/
def fnExactStepsUsedSpec : ChangeSpec := { name := "fnExactStepsUsed", fn := fun _ => fun
  | [d] => { results := [.lit (.bool true)], args := [d] }
  | _ => none }
def fnExactStepsUsedRow : OpenClaim := { program := "ytaofflohfpodfaa", sum := "0d3fd5e8bf4e57c70044c9a1b9d6d2af522d227f64a19b1b2b48abcbab78f4fe", func := "loop.example/g03309/laws.FnExactStepsUsed", spec := "fnExactStepsUsed", apart := false }
def FnExactStepsUsedSaid : Prop := fnExactStepsUsedRow.holds Try.pinned (OpenSpec.ofChange fnExactStepsUsedSpec)

/-- ITS FALSE NEIGHBOUR: 'it returns false'. Refute it at one input. -/
def fnExactStepsUsedWrong : ChangeSpec := { name := "fnExactStepsUsed", fn := fun _ => fun
  | [d] => { results := [.lit (.bool false)], args := [d] }
  | _ => none }
def FnExactStepsUsedWrongFalsely : Prop := fnExactStepsUsedRow.holds Try.pinned (OpenSpec.ofChange fnExactStepsUsedWrong)

/-- 'laws.FnExactWrongNotes': WHATEVER THE INPUT: true; the input reads as it did. -/
def fnExactWrongNotesSpec : ChangeSpec := { name := "fnExactWrongNotes", fn := fun _ => fun
  | [d1, d2] => { results := [.lit (.bool true)], args := [d1, d2] }
  | _ => none }
def fnExactWrongNotesRow : OpenClaim := { program := "ytaofflohfpodfaa", sum := "0d3fd5e8bf4e57c70044c9a1b9d6d2af522d227f64a19b1b2b48abcbab78f4fe", func := "loop.example/g03309/laws.FnExactWrongNotes", spec := "fnExactWrongNotes", apart := false }
def FnExactWrongNotesSaid : Prop := fnExactWrongNotesRow.holds Try.pinned (OpenSpec.ofChange fnExactWrongNotesSpec)

/-- ITS FALSE NEIGHBOUR: 'it returns false'. Refute it at one input. -/
def fnExactWrongNotesWrong : ChangeSpec := { name := "fnExactWrongNotes", fn := fun _ => fun
  | [d1, d2] => { results := [.lit (.bool false)], args := [d1, d2] }
  | _ => none }
def FnExactWrongNotesWrongFalsely : Prop := fnExactWrongNotesRow.holds Try.pinned (OpenSpec.ofChange fnExactWrongNotesWrong)

/-- 'laws.FnExactTuneDistance': WHATEVER THE INPUT: true; the input reads as it did. -/
def fnExactTuneDistanceSpec : ChangeSpec := { name := "fnExactTuneDistance", fn := fun _ => fun
  | [d1, d2] => { results := [.lit (.bool true)], args := [d1, d2] }
  | _ => none }
def fnExactTuneDistanceRow : OpenClaim := { program := "ytaofflohfpodfaa", sum := "0d3fd5e8bf4e57c70044c9a1b9d6d2af522d227f64a19b1b2b48abcbab78f4fe", func := "loop.example/g03309/laws.FnExactTuneDistance", spec := "fnExactTuneDistance", apart := false }
def FnExactTuneDistanceSaid : Prop := fnExactTuneDistanceRow.holds Try.pinned (OpenSpec.ofChange fnExactTuneDistanceSpec)

/-- ITS FALSE NEIGHBOUR: 'it returns false'. Refute it at one input. -/
def fnExactTuneDistanceWrong : ChangeSpec := { name := "fnExactTuneDistance", fn := fun _ => fun
  | [d1, d2] => { results := [.lit (.bool false)], args := [d1, d2] }
  | _ => none }
def FnExactTuneDistanceWrongFalsely : Prop := fnExactTuneDistanceRow.holds Try.pinned (OpenSpec.ofChange fnExactTuneDistanceWrong)

/-- 'laws.FnExactOnTimes': WHATEVER THE INPUT: true; the input reads as it did. -/
def fnExactOnTimesSpec : ChangeSpec := { name := "fnExactOnTimes", fn := fun _ => fun
  | [d] => { results := [.lit (.bool true)], args := [d] }
  | _ => none }
def fnExactOnTimesRow : OpenClaim := { program := "ytaofflohfpodfaa", sum := "0d3fd5e8bf4e57c70044c9a1b9d6d2af522d227f64a19b1b2b48abcbab78f4fe", func := "loop.example/g03309/laws.FnExactOnTimes", spec := "fnExactOnTimes", apart := false }
def FnExactOnTimesSaid : Prop := fnExactOnTimesRow.holds Try.pinned (OpenSpec.ofChange fnExactOnTimesSpec)

/-- ITS FALSE NEIGHBOUR: 'it returns false'. Refute it at one input. -/
def fnExactOnTimesWrong : ChangeSpec := { name := "fnExactOnTimes", fn := fun _ => fun
  | [d] => { results := [.lit (.bool false)], args := [d] }
  | _ => none }
def FnExactOnTimesWrongFalsely : Prop := fnExactOnTimesRow.holds Try.pinned (OpenSpec.ofChange fnExactOnTimesWrong)

/-- 'laws.FnExactLongestSilence': WHATEVER THE INPUT: true; the input reads as it did. -/
def fnExactLongestSilenceSpec : ChangeSpec := { name := "fnExactLongestSilence", fn := fun _ => fun
  | [d] => { results := [.lit (.bool true)], args := [d] }
  | _ => none }
def fnExactLongestSilenceRow : OpenClaim := { program := "ytaofflohfpodfaa", sum := "0d3fd5e8bf4e57c70044c9a1b9d6d2af522d227f64a19b1b2b48abcbab78f4fe", func := "loop.example/g03309/laws.FnExactLongestSilence", spec := "fnExactLongestSilence", apart := false }
def FnExactLongestSilenceSaid : Prop := fnExactLongestSilenceRow.holds Try.pinned (OpenSpec.ofChange fnExactLongestSilenceSpec)

/-- ITS FALSE NEIGHBOUR: 'it returns false'. Refute it at one input. -/
def fnExactLongestSilenceWrong : ChangeSpec := { name := "fnExactLongestSilence", fn := fun _ => fun
  | [d] => { results := [.lit (.bool false)], args := [d] }
  | _ => none }
def FnExactLongestSilenceWrongFalsely : Prop := fnExactLongestSilenceRow.holds Try.pinned (OpenSpec.ofChange fnExactLongestSilenceWrong)

/-- 'laws.FnExactGapsOf': WHATEVER THE INPUT: true; the input reads as it did. -/
def fnExactGapsOfSpec : ChangeSpec := { name := "fnExactGapsOf", fn := fun _ => fun
  | [d] => { results := [.lit (.bool true)], args := [d] }
  | _ => none }
def fnExactGapsOfRow : OpenClaim := { program := "ytaofflohfpodfaa", sum := "0d3fd5e8bf4e57c70044c9a1b9d6d2af522d227f64a19b1b2b48abcbab78f4fe", func := "loop.example/g03309/laws.FnExactGapsOf", spec := "fnExactGapsOf", apart := false }
def FnExactGapsOfSaid : Prop := fnExactGapsOfRow.holds Try.pinned (OpenSpec.ofChange fnExactGapsOfSpec)

/-- ITS FALSE NEIGHBOUR: 'it returns false'. Refute it at one input. -/
def fnExactGapsOfWrong : ChangeSpec := { name := "fnExactGapsOf", fn := fun _ => fun
  | [d] => { results := [.lit (.bool false)], args := [d] }
  | _ => none }
def FnExactGapsOfWrongFalsely : Prop := fnExactGapsOfRow.holds Try.pinned (OpenSpec.ofChange fnExactGapsOfWrong)

/-- 'laws.FnExactIsVariation': WHATEVER THE INPUT: true; the input reads as it did. -/
def fnExactIsVariationSpec : ChangeSpec := { name := "fnExactIsVariation", fn := fun _ => fun
  | [d1, d2, d3] => { results := [.lit (.bool true)], args := [d1, d2, d3] }
  | _ => none }
def fnExactIsVariationRow : OpenClaim := { program := "ytaofflohfpodfaa", sum := "0d3fd5e8bf4e57c70044c9a1b9d6d2af522d227f64a19b1b2b48abcbab78f4fe", func := "loop.example/g03309/laws.FnExactIsVariation", spec := "fnExactIsVariation", apart := false }
def FnExactIsVariationSaid : Prop := fnExactIsVariationRow.holds Try.pinned (OpenSpec.ofChange fnExactIsVariationSpec)

/-- ITS FALSE NEIGHBOUR: 'it returns false'. Refute it at one input. -/
def fnExactIsVariationWrong : ChangeSpec := { name := "fnExactIsVariation", fn := fun _ => fun
  | [d1, d2, d3] => { results := [.lit (.bool false)], args := [d1, d2, d3] }
  | _ => none }
def FnExactIsVariationWrongFalsely : Prop := fnExactIsVariationRow.holds Try.pinned (OpenSpec.ofChange fnExactIsVariationWrong)

/- THE SECOND FORM. 'bulk': how many values and letters a reading holds, each counted each time it is reached (what is shared counts as often as it is met; a slice's spare places count too). A statement '..UptoSaid' is the law's where the arguments, and the package variables that the reading takes, are together of bulk at most 1048576: NARROWER than '..Said'. Prove '..Said' where nothing that the law and all that it calls make is longer than what came in: it says more and counts as full. Else prove '..UptoSaid'. A law counts once. -/
mutual
def uptoBulk {H : Type} : DataW H → Nat
  | .lit (.string bytes) => bytes.length + 1
  | .lit _ => 1
  | .nil => 1
  | .ptr d => uptoBulk d + 1
  | .slice elems spare => uptoBulkAll elems + uptoBulkAll spare + 1
  | .agg parts => uptoBulkAll parts + 1
  | .iface _ d => uptoBulk d + 1
  | .map entries => uptoBulkEntries entries + 1
  | .held _ => 1
def uptoBulkAll {H : Type} : List (DataW H) → Nat
  | [] => 0
  | d :: r => uptoBulk d + uptoBulkAll r
def uptoBulkEntries {H : Type} : List (Lit × DataW H) → Nat
  | [] => 0
  | x :: r => uptoBulkEntry x + uptoBulkEntries r
def uptoBulkEntry {H : Type} : Lit × DataW H → Nat
  | (.string bytes, d) => bytes.length + uptoBulk d + 1
  | (_, d) => uptoBulk d + 1
 end
def uptoSmall : (H : Type) → List (DataW H) → Bool := fun _ ds => decide (uptoBulkAll ds ≤ 1048576)
def OpenSpec.upto (s : _root_.Go.ChangeSpec) : _root_.Go.OpenSpec := { _root_.Go.OpenSpec.ofChange s with cond := some uptoSmall }

/-- 'laws.FnExactContourOf', WHERE WHAT IT READS IS OF BULK AT MOST 1048576: true; the input reads as it did. -/
def fnExactContourOfUptoRow : OpenClaim := { program := "ytaofflohfpodfaa", sum := "0d3fd5e8bf4e57c70044c9a1b9d6d2af522d227f64a19b1b2b48abcbab78f4fe", func := "loop.example/g03309/laws.FnExactContourOf", spec := "fnExactContourOf", apart := false, narrowed := true }
def FnExactContourOfUptoSaid : Prop := fnExactContourOfUptoRow.holds Try.pinned (OpenSpec.upto fnExactContourOfSpec)

/-- 'laws.FnExactCommonPitches', WHERE WHAT IT READS IS OF BULK AT MOST 1048576: true; the input reads as it did. -/
def fnExactCommonPitchesUptoRow : OpenClaim := { program := "ytaofflohfpodfaa", sum := "0d3fd5e8bf4e57c70044c9a1b9d6d2af522d227f64a19b1b2b48abcbab78f4fe", func := "loop.example/g03309/laws.FnExactCommonPitches", spec := "fnExactCommonPitches", apart := false, narrowed := true }
def FnExactCommonPitchesUptoSaid : Prop := fnExactCommonPitchesUptoRow.holds Try.pinned (OpenSpec.upto fnExactCommonPitchesSpec)

/-- 'laws.FnExactOccursAt', WHERE WHAT IT READS IS OF BULK AT MOST 1048576: true; the input reads as it did. -/
def fnExactOccursAtUptoRow : OpenClaim := { program := "ytaofflohfpodfaa", sum := "0d3fd5e8bf4e57c70044c9a1b9d6d2af522d227f64a19b1b2b48abcbab78f4fe", func := "loop.example/g03309/laws.FnExactOccursAt", spec := "fnExactOccursAt", apart := false, narrowed := true }
def FnExactOccursAtUptoSaid : Prop := fnExactOccursAtUptoRow.holds Try.pinned (OpenSpec.upto fnExactOccursAtSpec)

/-- 'laws.FnExactMostSounding', WHERE WHAT IT READS IS OF BULK AT MOST 1048576: true; the input reads as it did. -/
def fnExactMostSoundingUptoRow : OpenClaim := { program := "ytaofflohfpodfaa", sum := "0d3fd5e8bf4e57c70044c9a1b9d6d2af522d227f64a19b1b2b48abcbab78f4fe", func := "loop.example/g03309/laws.FnExactMostSounding", spec := "fnExactMostSounding", apart := false, narrowed := true }
def FnExactMostSoundingUptoSaid : Prop := fnExactMostSoundingUptoRow.holds Try.pinned (OpenSpec.upto fnExactMostSoundingSpec)

/-- 'laws.FnExactPartOf', WHERE WHAT IT READS IS OF BULK AT MOST 1048576: true; the input reads as it did. -/
def fnExactPartOfUptoRow : OpenClaim := { program := "ytaofflohfpodfaa", sum := "0d3fd5e8bf4e57c70044c9a1b9d6d2af522d227f64a19b1b2b48abcbab78f4fe", func := "loop.example/g03309/laws.FnExactPartOf", spec := "fnExactPartOf", apart := false, narrowed := true }
def FnExactPartOfUptoSaid : Prop := fnExactPartOfUptoRow.holds Try.pinned (OpenSpec.upto fnExactPartOfSpec)

/-- 'laws.FnExactStepsUsed', WHERE WHAT IT READS IS OF BULK AT MOST 1048576: true; the input reads as it did. -/
def fnExactStepsUsedUptoRow : OpenClaim := { program := "ytaofflohfpodfaa", sum := "0d3fd5e8bf4e57c70044c9a1b9d6d2af522d227f64a19b1b2b48abcbab78f4fe", func := "loop.example/g03309/laws.FnExactStepsUsed", spec := "fnExactStepsUsed", apart := false, narrowed := true }
def FnExactStepsUsedUptoSaid : Prop := fnExactStepsUsedUptoRow.holds Try.pinned (OpenSpec.upto fnExactStepsUsedSpec)

/-- 'laws.FnExactWrongNotes', WHERE WHAT IT READS IS OF BULK AT MOST 1048576: true; the input reads as it did. -/
def fnExactWrongNotesUptoRow : OpenClaim := { program := "ytaofflohfpodfaa", sum := "0d3fd5e8bf4e57c70044c9a1b9d6d2af522d227f64a19b1b2b48abcbab78f4fe", func := "loop.example/g03309/laws.FnExactWrongNotes", spec := "fnExactWrongNotes", apart := false, narrowed := true }
def FnExactWrongNotesUptoSaid : Prop := fnExactWrongNotesUptoRow.holds Try.pinned (OpenSpec.upto fnExactWrongNotesSpec)

/-- 'laws.FnExactTuneDistance', WHERE WHAT IT READS IS OF BULK AT MOST 1048576: true; the input reads as it did. -/
def fnExactTuneDistanceUptoRow : OpenClaim := { program := "ytaofflohfpodfaa", sum := "0d3fd5e8bf4e57c70044c9a1b9d6d2af522d227f64a19b1b2b48abcbab78f4fe", func := "loop.example/g03309/laws.FnExactTuneDistance", spec := "fnExactTuneDistance", apart := false, narrowed := true }
def FnExactTuneDistanceUptoSaid : Prop := fnExactTuneDistanceUptoRow.holds Try.pinned (OpenSpec.upto fnExactTuneDistanceSpec)

/-- 'laws.FnExactOnTimes', WHERE WHAT IT READS IS OF BULK AT MOST 1048576: true; the input reads as it did. -/
def fnExactOnTimesUptoRow : OpenClaim := { program := "ytaofflohfpodfaa", sum := "0d3fd5e8bf4e57c70044c9a1b9d6d2af522d227f64a19b1b2b48abcbab78f4fe", func := "loop.example/g03309/laws.FnExactOnTimes", spec := "fnExactOnTimes", apart := false, narrowed := true }
def FnExactOnTimesUptoSaid : Prop := fnExactOnTimesUptoRow.holds Try.pinned (OpenSpec.upto fnExactOnTimesSpec)

/-- 'laws.FnExactLongestSilence', WHERE WHAT IT READS IS OF BULK AT MOST 1048576: true; the input reads as it did. -/
def fnExactLongestSilenceUptoRow : OpenClaim := { program := "ytaofflohfpodfaa", sum := "0d3fd5e8bf4e57c70044c9a1b9d6d2af522d227f64a19b1b2b48abcbab78f4fe", func := "loop.example/g03309/laws.FnExactLongestSilence", spec := "fnExactLongestSilence", apart := false, narrowed := true }
def FnExactLongestSilenceUptoSaid : Prop := fnExactLongestSilenceUptoRow.holds Try.pinned (OpenSpec.upto fnExactLongestSilenceSpec)

/-- 'laws.FnExactGapsOf', WHERE WHAT IT READS IS OF BULK AT MOST 1048576: true; the input reads as it did. -/
def fnExactGapsOfUptoRow : OpenClaim := { program := "ytaofflohfpodfaa", sum := "0d3fd5e8bf4e57c70044c9a1b9d6d2af522d227f64a19b1b2b48abcbab78f4fe", func := "loop.example/g03309/laws.FnExactGapsOf", spec := "fnExactGapsOf", apart := false, narrowed := true }
def FnExactGapsOfUptoSaid : Prop := fnExactGapsOfUptoRow.holds Try.pinned (OpenSpec.upto fnExactGapsOfSpec)

/-- 'laws.FnExactIsVariation', WHERE WHAT IT READS IS OF BULK AT MOST 1048576: true; the input reads as it did. -/
def fnExactIsVariationUptoRow : OpenClaim := { program := "ytaofflohfpodfaa", sum := "0d3fd5e8bf4e57c70044c9a1b9d6d2af522d227f64a19b1b2b48abcbab78f4fe", func := "loop.example/g03309/laws.FnExactIsVariation", spec := "fnExactIsVariation", apart := false, narrowed := true }
def FnExactIsVariationUptoSaid : Prop := fnExactIsVariationUptoRow.holds Try.pinned (OpenSpec.upto fnExactIsVariationSpec)

end Rows
end Go.Proofs.Ytaofflohfpodfaa
