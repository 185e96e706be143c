/-
  No cell of these rows narrows 'for every input' (looked for: loops, veiled, ifaces, maps, wideKeys, modest, calm, conditions, laid).
  DERIVED. THE GIVEN ROWS OF THIS SEAT. 12 by the template 'for every input the law returns true; each argument reads behind the call as it read before'; 0 by the template 'total and deterministic' (their statements: YtjfaodbjmanfnaaTotals.lean).
  GIVEN WITH THE SEED: the statements are not yours to turn. If you find one false, say at which input.
  Laid BY PROGRAM, IN A SANDBOX (cutbox-rows.mjs): the forced cells as the released guide's own fill.sh prints them over the translation 39bf2402b54c7add… (all of the seat's roots in one cut). By AI agents, Wed Nov 11 2026. No macro, syntax, notation, axiom, sorry.
-/
import Derived.Test.YtjfaodbjmanfnaaChecked
import GoSem.Claim
import GoSem.ClaimJoined
import GoSem.ClaimMapViews
import Derived.JoinedTies
import Derived.KernelRfl
namespace Go.Proofs.Ytjfaodbjmanfnaa
/- THE CELL 'sum', in the pinned program and in every row, IS THE sha256 OF THE DUMP (.gsa) THAT YtjfaodbjmanfnaaProg.lean LOADS. Nothing in Lean hashes anything: it is a label: what it is worth is what the hold of that sum in a sandbox is worth. -/
noncomputable def Try.pinned : Pinned := { name := "ytjfaodbjmanfnaa", sum := "39bf2402b54c7add00ec18ecfeb7628aef31c55b387cc7362ba503582c5fa3b9", checked := Try.checked }
namespace Rows
def none {H : Type} : Left H := { results := [], args := [] }

/-- 'laws.FnMotifs': WHATEVER THE INPUT: true; the input reads as it did. -/
def fnMotifsSpec : ChangeSpec := { name := "fnMotifs", fn := fun _ => fun
  | [d] => { results := [.lit (.bool true)], args := [d] }
  | _ => none }
def fnMotifsRow : OpenClaim := { program := "ytjfaodbjmanfnaa", sum := "39bf2402b54c7add00ec18ecfeb7628aef31c55b387cc7362ba503582c5fa3b9", func := "loop.example/g03309/laws.FnMotifs", spec := "fnMotifs", apart := false }
def FnMotifsSaid : Prop := fnMotifsRow.holds Try.pinned (OpenSpec.ofChange fnMotifsSpec)

/-- ITS FALSE NEIGHBOUR: 'it returns false'. Refute it at one input. -/
def fnMotifsWrong : ChangeSpec := { name := "fnMotifs", fn := fun _ => fun
  | [d] => { results := [.lit (.bool false)], args := [d] }
  | _ => none }
def FnMotifsWrongFalsely : Prop := fnMotifsRow.holds Try.pinned (OpenSpec.ofChange fnMotifsWrong)

/-- 'laws.FnExactCountMotifs': WHATEVER THE INPUT: true; the input reads as it did. -/
def fnExactCountMotifsSpec : ChangeSpec := { name := "fnExactCountMotifs", fn := fun _ => fun
  | [d1, d2] => { results := [.lit (.bool true)], args := [d1, d2] }
  | _ => none }
def fnExactCountMotifsRow : OpenClaim := { program := "ytjfaodbjmanfnaa", sum := "39bf2402b54c7add00ec18ecfeb7628aef31c55b387cc7362ba503582c5fa3b9", func := "loop.example/g03309/laws.FnExactCountMotifs", spec := "fnExactCountMotifs", apart := false }
def FnExactCountMotifsSaid : Prop := fnExactCountMotifsRow.holds Try.pinned (OpenSpec.ofChange fnExactCountMotifsSpec)

/-- ITS FALSE NEIGHBOUR: 'it returns false'. Refute it at one input. -/
def fnExactCountMotifsWrong : ChangeSpec := { name := "fnExactCountMotifs", fn := fun _ => fun
  | [d1, d2] => { results := [.lit (.bool false)], args := [d1, d2] }
  | _ => none }
def FnExactCountMotifsWrongFalsely : Prop := fnExactCountMotifsRow.holds Try.pinned (OpenSpec.ofChange fnExactCountMotifsWrong)

/-- 'laws.FnExactLongestRepeat': WHATEVER THE INPUT: true; the input reads as it did. -/
def fnExactLongestRepeatSpec : ChangeSpec := { name := "fnExactLongestRepeat", fn := fun _ => fun
  | [d] => { results := [.lit (.bool true)], args := [d] }
  | _ => none }
def fnExactLongestRepeatRow : OpenClaim := { program := "ytjfaodbjmanfnaa", sum := "39bf2402b54c7add00ec18ecfeb7628aef31c55b387cc7362ba503582c5fa3b9", func := "loop.example/g03309/laws.FnExactLongestRepeat", spec := "fnExactLongestRepeat", apart := false }
def FnExactLongestRepeatSaid : Prop := fnExactLongestRepeatRow.holds Try.pinned (OpenSpec.ofChange fnExactLongestRepeatSpec)

/-- ITS FALSE NEIGHBOUR: 'it returns false'. Refute it at one input. -/
def fnExactLongestRepeatWrong : ChangeSpec := { name := "fnExactLongestRepeat", fn := fun _ => fun
  | [d] => { results := [.lit (.bool false)], args := [d] }
  | _ => none }
def FnExactLongestRepeatWrongFalsely : Prop := fnExactLongestRepeatRow.holds Try.pinned (OpenSpec.ofChange fnExactLongestRepeatWrong)

/-- 'laws.FnExactTuneFrom': WHATEVER THE INPUT: true; the input reads as it did. -/
def fnExactTuneFromSpec : ChangeSpec := { name := "fnExactTuneFrom", fn := fun _ => fun
  | [d1, d2] => { results := [.lit (.bool true)], args := [d1, d2] }
  | _ => none }
def fnExactTuneFromRow : OpenClaim := { program := "ytjfaodbjmanfnaa", sum := "39bf2402b54c7add00ec18ecfeb7628aef31c55b387cc7362ba503582c5fa3b9", func := "loop.example/g03309/laws.FnExactTuneFrom", spec := "fnExactTuneFrom", apart := false }
def FnExactTuneFromSaid : Prop := fnExactTuneFromRow.holds Try.pinned (OpenSpec.ofChange fnExactTuneFromSpec)

/-- ITS FALSE NEIGHBOUR: 'it returns false'. Refute it at one input. -/
def fnExactTuneFromWrong : ChangeSpec := { name := "fnExactTuneFrom", fn := fun _ => fun
  | [d1, d2] => { results := [.lit (.bool false)], args := [d1, d2] }
  | _ => none }
def FnExactTuneFromWrongFalsely : Prop := fnExactTuneFromRow.holds Try.pinned (OpenSpec.ofChange fnExactTuneFromWrong)

/-- 'laws.FnExactBestScale': WHATEVER THE INPUT: true; the input reads as it did. -/
def fnExactBestScaleSpec : ChangeSpec := { name := "fnExactBestScale", fn := fun _ => fun
  | [d] => { results := [.lit (.bool true)], args := [d] }
  | _ => none }
def fnExactBestScaleRow : OpenClaim := { program := "ytjfaodbjmanfnaa", sum := "39bf2402b54c7add00ec18ecfeb7628aef31c55b387cc7362ba503582c5fa3b9", func := "loop.example/g03309/laws.FnExactBestScale", spec := "fnExactBestScale", apart := false }
def FnExactBestScaleSaid : Prop := fnExactBestScaleRow.holds Try.pinned (OpenSpec.ofChange fnExactBestScaleSpec)

/-- ITS FALSE NEIGHBOUR: 'it returns false'. Refute it at one input. -/
def fnExactBestScaleWrong : ChangeSpec := { name := "fnExactBestScale", fn := fun _ => fun
  | [d] => { results := [.lit (.bool false)], args := [d] }
  | _ => none }
def FnExactBestScaleWrongFalsely : Prop := fnExactBestScaleRow.holds Try.pinned (OpenSpec.ofChange fnExactBestScaleWrong)

/-- 'laws.FnExactSoundsAt': WHATEVER THE INPUT: true; the input reads as it did. -/
def fnExactSoundsAtSpec : ChangeSpec := { name := "fnExactSoundsAt", fn := fun _ => fun
  | [d1, d2, d3] => { results := [.lit (.bool true)], args := [d1, d2, d3] }
  | _ => none }
def fnExactSoundsAtRow : OpenClaim := { program := "ytjfaodbjmanfnaa", sum := "39bf2402b54c7add00ec18ecfeb7628aef31c55b387cc7362ba503582c5fa3b9", func := "loop.example/g03309/laws.FnExactSoundsAt", spec := "fnExactSoundsAt", apart := false }
def FnExactSoundsAtSaid : Prop := fnExactSoundsAtRow.holds Try.pinned (OpenSpec.ofChange fnExactSoundsAtSpec)

/-- ITS FALSE NEIGHBOUR: 'it returns false'. Refute it at one input. -/
def fnExactSoundsAtWrong : ChangeSpec := { name := "fnExactSoundsAt", fn := fun _ => fun
  | [d1, d2, d3] => { results := [.lit (.bool false)], args := [d1, d2, d3] }
  | _ => none }
def FnExactSoundsAtWrongFalsely : Prop := fnExactSoundsAtRow.holds Try.pinned (OpenSpec.ofChange fnExactSoundsAtWrong)

/-- 'laws.FnExactNeedsDamper': WHATEVER THE INPUT: true; the input reads as it did. -/
def fnExactNeedsDamperSpec : ChangeSpec := { name := "fnExactNeedsDamper", fn := fun _ => fun
  | [d1, d2] => { results := [.lit (.bool true)], args := [d1, d2] }
  | _ => none }
def fnExactNeedsDamperRow : OpenClaim := { program := "ytjfaodbjmanfnaa", sum := "39bf2402b54c7add00ec18ecfeb7628aef31c55b387cc7362ba503582c5fa3b9", func := "loop.example/g03309/laws.FnExactNeedsDamper", spec := "fnExactNeedsDamper", apart := false }
def FnExactNeedsDamperSaid : Prop := fnExactNeedsDamperRow.holds Try.pinned (OpenSpec.ofChange fnExactNeedsDamperSpec)

/-- ITS FALSE NEIGHBOUR: 'it returns false'. Refute it at one input. -/
def fnExactNeedsDamperWrong : ChangeSpec := { name := "fnExactNeedsDamper", fn := fun _ => fun
  | [d1, d2] => { results := [.lit (.bool false)], args := [d1, d2] }
  | _ => none }
def FnExactNeedsDamperWrongFalsely : Prop := fnExactNeedsDamperRow.holds Try.pinned (OpenSpec.ofChange fnExactNeedsDamperWrong)

/-- 'laws.FnExactOccurrences': WHATEVER THE INPUT: true; the input reads as it did. -/
def fnExactOccurrencesSpec : ChangeSpec := { name := "fnExactOccurrences", fn := fun _ => fun
  | [d1, d2] => { results := [.lit (.bool true)], args := [d1, d2] }
  | _ => none }
def fnExactOccurrencesRow : OpenClaim := { program := "ytjfaodbjmanfnaa", sum := "39bf2402b54c7add00ec18ecfeb7628aef31c55b387cc7362ba503582c5fa3b9", func := "loop.example/g03309/laws.FnExactOccurrences", spec := "fnExactOccurrences", apart := false }
def FnExactOccurrencesSaid : Prop := fnExactOccurrencesRow.holds Try.pinned (OpenSpec.ofChange fnExactOccurrencesSpec)

/-- ITS FALSE NEIGHBOUR: 'it returns false'. Refute it at one input. -/
def fnExactOccurrencesWrong : ChangeSpec := { name := "fnExactOccurrences", fn := fun _ => fun
  | [d1, d2] => { results := [.lit (.bool false)], args := [d1, d2] }
  | _ => none }
def FnExactOccurrencesWrongFalsely : Prop := fnExactOccurrencesRow.holds Try.pinned (OpenSpec.ofChange fnExactOccurrencesWrong)

/-- 'laws.FnExactScalesFor': WHATEVER THE INPUT: true; the input reads as it did. -/
def fnExactScalesForSpec : ChangeSpec := { name := "fnExactScalesFor", fn := fun _ => fun
  | [d] => { results := [.lit (.bool true)], args := [d] }
  | _ => none }
def fnExactScalesForRow : OpenClaim := { program := "ytjfaodbjmanfnaa", sum := "39bf2402b54c7add00ec18ecfeb7628aef31c55b387cc7362ba503582c5fa3b9", func := "loop.example/g03309/laws.FnExactScalesFor", spec := "fnExactScalesFor", apart := false }
def FnExactScalesForSaid : Prop := fnExactScalesForRow.holds Try.pinned (OpenSpec.ofChange fnExactScalesForSpec)

/-- ITS FALSE NEIGHBOUR: 'it returns false'. Refute it at one input. -/
def fnExactScalesForWrong : ChangeSpec := { name := "fnExactScalesFor", fn := fun _ => fun
  | [d] => { results := [.lit (.bool false)], args := [d] }
  | _ => none }
def FnExactScalesForWrongFalsely : Prop := fnExactScalesForRow.holds Try.pinned (OpenSpec.ofChange fnExactScalesForWrong)

/-- 'laws.FnExactNearestTune': WHATEVER THE INPUT: true; the input reads as it did. -/
def fnExactNearestTuneSpec : ChangeSpec := { name := "fnExactNearestTune", fn := fun _ => fun
  | [d1, d2] => { results := [.lit (.bool true)], args := [d1, d2] }
  | _ => none }
def fnExactNearestTuneRow : OpenClaim := { program := "ytjfaodbjmanfnaa", sum := "39bf2402b54c7add00ec18ecfeb7628aef31c55b387cc7362ba503582c5fa3b9", func := "loop.example/g03309/laws.FnExactNearestTune", spec := "fnExactNearestTune", apart := false }
def FnExactNearestTuneSaid : Prop := fnExactNearestTuneRow.holds Try.pinned (OpenSpec.ofChange fnExactNearestTuneSpec)

/-- ITS FALSE NEIGHBOUR: 'it returns false'. Refute it at one input. -/
def fnExactNearestTuneWrong : ChangeSpec := { name := "fnExactNearestTune", fn := fun _ => fun
  | [d1, d2] => { results := [.lit (.bool false)], args := [d1, d2] }
  | _ => none }
def FnExactNearestTuneWrongFalsely : Prop := fnExactNearestTuneRow.holds Try.pinned (OpenSpec.ofChange fnExactNearestTuneWrong)

/-- 'laws.FnRhythms': WHATEVER THE INPUT: true; the input reads as it did. -/
def fnRhythmsSpec : ChangeSpec := { name := "fnRhythms", fn := fun _ => fun
  | [d] => { results := [.lit (.bool true)], args := [d] }
  | _ => none }
def fnRhythmsRow : OpenClaim := { program := "ytjfaodbjmanfnaa", sum := "39bf2402b54c7add00ec18ecfeb7628aef31c55b387cc7362ba503582c5fa3b9", func := "loop.example/g03309/laws.FnRhythms", spec := "fnRhythms", apart := false }
def FnRhythmsSaid : Prop := fnRhythmsRow.holds Try.pinned (OpenSpec.ofChange fnRhythmsSpec)

/-- ITS FALSE NEIGHBOUR: 'it returns false'. Refute it at one input. -/
def fnRhythmsWrong : ChangeSpec := { name := "fnRhythms", fn := fun _ => fun
  | [d] => { results := [.lit (.bool false)], args := [d] }
  | _ => none }
def FnRhythmsWrongFalsely : Prop := fnRhythmsRow.holds Try.pinned (OpenSpec.ofChange fnRhythmsWrong)

/-- 'laws.FnScales': WHATEVER THE INPUT: true; the input reads as it did. -/
def fnScalesSpec : ChangeSpec := { name := "fnScales", fn := fun _ => fun
  | [d] => { results := [.lit (.bool true)], args := [d] }
  | _ => none }
def fnScalesRow : OpenClaim := { program := "ytjfaodbjmanfnaa", sum := "39bf2402b54c7add00ec18ecfeb7628aef31c55b387cc7362ba503582c5fa3b9", func := "loop.example/g03309/laws.FnScales", spec := "fnScales", apart := false }
def FnScalesSaid : Prop := fnScalesRow.holds Try.pinned (OpenSpec.ofChange fnScalesSpec)

/-- ITS FALSE NEIGHBOUR: 'it returns false'. Refute it at one input. -/
def fnScalesWrong : ChangeSpec := { name := "fnScales", fn := fun _ => fun
  | [d] => { results := [.lit (.bool false)], args := [d] }
  | _ => none }
def FnScalesWrongFalsely : Prop := fnScalesRow.holds Try.pinned (OpenSpec.ofChange fnScalesWrong)

/- THE SECOND FORM. 'bulk': how many values and letters a reading holds, each counted each time it is reached (what is shared counts as often as it is met; a slice's spare places count too). A statement '..UptoSaid' is the law's where the arguments, and the package variables that the reading takes, are together of bulk at most 1048576: NARROWER than '..Said'. Prove '..Said' where nothing that the law and all that it calls make is longer than what came in: it says more and counts as full. Else prove '..UptoSaid'. A law counts once. -/
mutual
def uptoBulk {H : Type} : DataW H → Nat
  | .lit (.string bytes) => bytes.length + 1
  | .lit _ => 1
  | .nil => 1
  | .ptr d => uptoBulk d + 1
  | .slice elems spare => uptoBulkAll elems + uptoBulkAll spare + 1
  | .agg parts => uptoBulkAll parts + 1
  | .iface _ d => uptoBulk d + 1
  | .map entries => uptoBulkEntries entries + 1
  | .held _ => 1
def uptoBulkAll {H : Type} : List (DataW H) → Nat
  | [] => 0
  | d :: r => uptoBulk d + uptoBulkAll r
def uptoBulkEntries {H : Type} : List (Lit × DataW H) → Nat
  | [] => 0
  | x :: r => uptoBulkEntry x + uptoBulkEntries r
def uptoBulkEntry {H : Type} : Lit × DataW H → Nat
  | (.string bytes, d) => bytes.length + uptoBulk d + 1
  | (_, d) => uptoBulk d + 1
 end
def uptoSmall : (H : Type) → List (DataW H) → Bool := fun _ ds => decide (uptoBulkAll ds ≤ 1048576)
def OpenSpec.upto (s : _root_.Go.ChangeSpec) : _root_.Go.OpenSpec := { _root_.Go.OpenSpec.ofChange s with cond := some uptoSmall }

/-- 'laws.FnMotifs', WHERE WHAT IT READS IS OF BULK AT MOST 1048576: true; the input reads as it did. -/
def fnMotifsUptoRow : OpenClaim := { program := "ytjfaodbjmanfnaa", sum := "39bf2402b54c7add00ec18ecfeb7628aef31c55b387cc7362ba503582c5fa3b9", func := "loop.example/g03309/laws.FnMotifs", spec := "fnMotifs", apart := false, narrowed := true }
def FnMotifsUptoSaid : Prop := fnMotifsUptoRow.holds Try.pinned (OpenSpec.upto fnMotifsSpec)

/-- 'laws.FnExactCountMotifs', WHERE WHAT IT READS IS OF BULK AT MOST 1048576: true; the input reads as it did. -/
def fnExactCountMotifsUptoRow : OpenClaim := { program := "ytjfaodbjmanfnaa", sum := "39bf2402b54c7add00ec18ecfeb7628aef31c55b387cc7362ba503582c5fa3b9", func := "loop.example/g03309/laws.FnExactCountMotifs", spec := "fnExactCountMotifs", apart := false, narrowed := true }
def FnExactCountMotifsUptoSaid : Prop := fnExactCountMotifsUptoRow.holds Try.pinned (OpenSpec.upto fnExactCountMotifsSpec)

/-- 'laws.FnExactLongestRepeat', WHERE WHAT IT READS IS OF BULK AT MOST 1048576: true; the input reads as it did. -/
def fnExactLongestRepeatUptoRow : OpenClaim := { program := "ytjfaodbjmanfnaa", sum := "39bf2402b54c7add00ec18ecfeb7628aef31c55b387cc7362ba503582c5fa3b9", func := "loop.example/g03309/laws.FnExactLongestRepeat", spec := "fnExactLongestRepeat", apart := false, narrowed := true }
def FnExactLongestRepeatUptoSaid : Prop := fnExactLongestRepeatUptoRow.holds Try.pinned (OpenSpec.upto fnExactLongestRepeatSpec)

/-- 'laws.FnExactTuneFrom', WHERE WHAT IT READS IS OF BULK AT MOST 1048576: true; the input reads as it did. -/
def fnExactTuneFromUptoRow : OpenClaim := { program := "ytjfaodbjmanfnaa", sum := "39bf2402b54c7add00ec18ecfeb7628aef31c55b387cc7362ba503582c5fa3b9", func := "loop.example/g03309/laws.FnExactTuneFrom", spec := "fnExactTuneFrom", apart := false, narrowed := true }
def FnExactTuneFromUptoSaid : Prop := fnExactTuneFromUptoRow.holds Try.pinned (OpenSpec.upto fnExactTuneFromSpec)

/-- 'laws.FnExactBestScale', WHERE WHAT IT READS IS OF BULK AT MOST 1048576: true; the input reads as it did. -/
def fnExactBestScaleUptoRow : OpenClaim := { program := "ytjfaodbjmanfnaa", sum := "39bf2402b54c7add00ec18ecfeb7628aef31c55b387cc7362ba503582c5fa3b9", func := "loop.example/g03309/laws.FnExactBestScale", spec := "fnExactBestScale", apart := false, narrowed := true }
def FnExactBestScaleUptoSaid : Prop := fnExactBestScaleUptoRow.holds Try.pinned (OpenSpec.upto fnExactBestScaleSpec)

/-- 'laws.FnExactSoundsAt', WHERE WHAT IT READS IS OF BULK AT MOST 1048576: true; the input reads as it did. -/
def fnExactSoundsAtUptoRow : OpenClaim := { program := "ytjfaodbjmanfnaa", sum := "39bf2402b54c7add00ec18ecfeb7628aef31c55b387cc7362ba503582c5fa3b9", func := "loop.example/g03309/laws.FnExactSoundsAt", spec := "fnExactSoundsAt", apart := false, narrowed := true }
def FnExactSoundsAtUptoSaid : Prop := fnExactSoundsAtUptoRow.holds Try.pinned (OpenSpec.upto fnExactSoundsAtSpec)

/-- 'laws.FnExactNeedsDamper', WHERE WHAT IT READS IS OF BULK AT MOST 1048576: true; the input reads as it did. -/
def fnExactNeedsDamperUptoRow : OpenClaim := { program := "ytjfaodbjmanfnaa", sum := "39bf2402b54c7add00ec18ecfeb7628aef31c55b387cc7362ba503582c5fa3b9", func := "loop.example/g03309/laws.FnExactNeedsDamper", spec := "fnExactNeedsDamper", apart := false, narrowed := true }
def FnExactNeedsDamperUptoSaid : Prop := fnExactNeedsDamperUptoRow.holds Try.pinned (OpenSpec.upto fnExactNeedsDamperSpec)

/-- 'laws.FnExactOccurrences', WHERE WHAT IT READS IS OF BULK AT MOST 1048576: true; the input reads as it did. -/
def fnExactOccurrencesUptoRow : OpenClaim := { program := "ytjfaodbjmanfnaa", sum := "39bf2402b54c7add00ec18ecfeb7628aef31c55b387cc7362ba503582c5fa3b9", func := "loop.example/g03309/laws.FnExactOccurrences", spec := "fnExactOccurrences", apart := false, narrowed := true }
def FnExactOccurrencesUptoSaid : Prop := fnExactOccurrencesUptoRow.holds Try.pinned (OpenSpec.upto fnExactOccurrencesSpec)

/-- 'laws.FnExactScalesFor', WHERE WHAT IT READS IS OF BULK AT MOST 1048576: true; the input reads as it did. -/
def fnExactScalesForUptoRow : OpenClaim := { program := "ytjfaodbjmanfnaa", sum := "39bf2402b54c7add00ec18ecfeb7628aef31c55b387cc7362ba503582c5fa3b9", func := "loop.example/g03309/laws.FnExactScalesFor", spec := "fnExactScalesFor", apart := false, narrowed := true }
def FnExactScalesForUptoSaid : Prop := fnExactScalesForUptoRow.holds Try.pinned (OpenSpec.upto fnExactScalesForSpec)

/-- 'laws.FnExactNearestTune', WHERE WHAT IT READS IS OF BULK AT MOST 1048576: true; the input reads as it did. -/
def fnExactNearestTuneUptoRow : OpenClaim := { program := "ytjfaodbjmanfnaa", sum := "39bf2402b54c7add00ec18ecfeb7628aef31c55b387cc7362ba503582c5fa3b9", func := "loop.example/g03309/laws.FnExactNearestTune", spec := "fnExactNearestTune", apart := false, narrowed := true }
def FnExactNearestTuneUptoSaid : Prop := fnExactNearestTuneUptoRow.holds Try.pinned (OpenSpec.upto fnExactNearestTuneSpec)

/-- 'laws.FnRhythms', WHERE WHAT IT READS IS OF BULK AT MOST 1048576: true; the input reads as it did. -/
def fnRhythmsUptoRow : OpenClaim := { program := "ytjfaodbjmanfnaa", sum := "39bf2402b54c7add00ec18ecfeb7628aef31c55b387cc7362ba503582c5fa3b9", func := "loop.example/g03309/laws.FnRhythms", spec := "fnRhythms", apart := false, narrowed := true }
def FnRhythmsUptoSaid : Prop := fnRhythmsUptoRow.holds Try.pinned (OpenSpec.upto fnRhythmsSpec)

/-- 'laws.FnScales', WHERE WHAT IT READS IS OF BULK AT MOST 1048576: true; the input reads as it did. -/
def fnScalesUptoRow : OpenClaim := { program := "ytjfaodbjmanfnaa", sum := "39bf2402b54c7add00ec18ecfeb7628aef31c55b387cc7362ba503582c5fa3b9", func := "loop.example/g03309/laws.FnScales", spec := "fnScales", apart := false, narrowed := true }
def FnScalesUptoSaid : Prop := fnScalesUptoRow.holds Try.pinned (OpenSpec.upto fnScalesSpec)

end Rows
end Go.Proofs.Ytjfaodbjmanfnaa
