/-
  No cell of these rows narrows 'for every input' (looked for: loops, veiled, ifaces, maps, wideKeys, modest, calm, conditions, laid).
  DERIVED. THE GIVEN ROWS OF THIS SEAT. 12 by the template 'for every input the law returns true; each argument reads behind the call as it read before'; 0 by the template 'total and deterministic' (their statements: YthgeijgojdmidaaTotals.lean).
  GIVEN WITH THE SEED: the statements are not yours to turn. If you find one false, say at which input.
  Laid BY PROGRAM, IN A SANDBOX (cutbox-rows.mjs): the forced cells as the released guide's own fill.sh prints them over the translation a80042c1825ef6a7… (all of the seat's roots in one cut). By AI agents, Wed Nov 11 2026. No macro, syntax, notation, axiom, sorry.
-/
import Derived.Test.YthgeijgojdmidaaChecked
import GoSem.Claim
import GoSem.ClaimJoined
import GoSem.ClaimMapViews
import Derived.JoinedTies
import Derived.KernelRfl
namespace Go.Proofs.Ythgeijgojdmidaa
/- THE CELL 'sum', in the pinned program and in every row, IS THE sha256 OF THE DUMP (.gsa) THAT YthgeijgojdmidaaProg.lean LOADS. Nothing in Lean hashes anything: it is a label: what it is worth is what the hold of that sum in a sandbox is worth. -/
noncomputable def Try.pinned : Pinned := { name := "ythgeijgojdmidaa", sum := "a80042c1825ef6a7332a329408477ebf84fe7e06f3fc1b497f9ff06972c4b3f5", checked := Try.checked }
namespace Rows
def none {H : Type} : Left H := { results := [], args := [] }

/-- 'laws.FnExactWayCost': WHATEVER THE INPUT: true; the input reads as it did. -/
def fnExactWayCostSpec : ChangeSpec := { name := "fnExactWayCost", fn := fun _ => fun
  | [d1, d2] => { results := [.lit (.bool true)], args := [d1, d2] }
  | _ => none }
def fnExactWayCostRow : OpenClaim := { program := "ythgeijgojdmidaa", sum := "a80042c1825ef6a7332a329408477ebf84fe7e06f3fc1b497f9ff06972c4b3f5", func := "loop.example/g03309/laws.FnExactWayCost", spec := "fnExactWayCost", apart := false }
def FnExactWayCostSaid : Prop := fnExactWayCostRow.holds Try.pinned (OpenSpec.ofChange fnExactWayCostSpec)

/-- ITS FALSE NEIGHBOUR: 'it returns false'. Refute it at one input. -/
def fnExactWayCostWrong : ChangeSpec := { name := "fnExactWayCost", fn := fun _ => fun
  | [d1, d2] => { results := [.lit (.bool false)], args := [d1, d2] }
  | _ => none }
def FnExactWayCostWrongFalsely : Prop := fnExactWayCostRow.holds Try.pinned (OpenSpec.ofChange fnExactWayCostWrong)

/-- 'laws.FnExactNearestOrder': WHATEVER THE INPUT: true; the input reads as it did. -/
def fnExactNearestOrderSpec : ChangeSpec := { name := "fnExactNearestOrder", fn := fun _ => fun
  | [d] => { results := [.lit (.bool true)], args := [d] }
  | _ => none }
def fnExactNearestOrderRow : OpenClaim := { program := "ythgeijgojdmidaa", sum := "a80042c1825ef6a7332a329408477ebf84fe7e06f3fc1b497f9ff06972c4b3f5", func := "loop.example/g03309/laws.FnExactNearestOrder", spec := "fnExactNearestOrder", apart := false }
def FnExactNearestOrderSaid : Prop := fnExactNearestOrderRow.holds Try.pinned (OpenSpec.ofChange fnExactNearestOrderSpec)

/-- ITS FALSE NEIGHBOUR: 'it returns false'. Refute it at one input. -/
def fnExactNearestOrderWrong : ChangeSpec := { name := "fnExactNearestOrder", fn := fun _ => fun
  | [d] => { results := [.lit (.bool false)], args := [d] }
  | _ => none }
def FnExactNearestOrderWrongFalsely : Prop := fnExactNearestOrderRow.holds Try.pinned (OpenSpec.ofChange fnExactNearestOrderWrong)

/-- 'laws.FnExactLongestClean': WHATEVER THE INPUT: true; the input reads as it did. -/
def fnExactLongestCleanSpec : ChangeSpec := { name := "fnExactLongestClean", fn := fun _ => fun
  | [d] => { results := [.lit (.bool true)], args := [d] }
  | _ => none }
def fnExactLongestCleanRow : OpenClaim := { program := "ythgeijgojdmidaa", sum := "a80042c1825ef6a7332a329408477ebf84fe7e06f3fc1b497f9ff06972c4b3f5", func := "loop.example/g03309/laws.FnExactLongestClean", spec := "fnExactLongestClean", apart := false }
def FnExactLongestCleanSaid : Prop := fnExactLongestCleanRow.holds Try.pinned (OpenSpec.ofChange fnExactLongestCleanSpec)

/-- ITS FALSE NEIGHBOUR: 'it returns false'. Refute it at one input. -/
def fnExactLongestCleanWrong : ChangeSpec := { name := "fnExactLongestClean", fn := fun _ => fun
  | [d] => { results := [.lit (.bool false)], args := [d] }
  | _ => none }
def FnExactLongestCleanWrongFalsely : Prop := fnExactLongestCleanRow.holds Try.pinned (OpenSpec.ofChange fnExactLongestCleanWrong)

/-- 'laws.FnExactHarshTimes': WHATEVER THE INPUT: true; the input reads as it did. -/
def fnExactHarshTimesSpec : ChangeSpec := { name := "fnExactHarshTimes", fn := fun _ => fun
  | [d1, d2] => { results := [.lit (.bool true)], args := [d1, d2] }
  | _ => none }
def fnExactHarshTimesRow : OpenClaim := { program := "ythgeijgojdmidaa", sum := "a80042c1825ef6a7332a329408477ebf84fe7e06f3fc1b497f9ff06972c4b3f5", func := "loop.example/g03309/laws.FnExactHarshTimes", spec := "fnExactHarshTimes", apart := false }
def FnExactHarshTimesSaid : Prop := fnExactHarshTimesRow.holds Try.pinned (OpenSpec.ofChange fnExactHarshTimesSpec)

/-- ITS FALSE NEIGHBOUR: 'it returns false'. Refute it at one input. -/
def fnExactHarshTimesWrong : ChangeSpec := { name := "fnExactHarshTimes", fn := fun _ => fun
  | [d1, d2] => { results := [.lit (.bool false)], args := [d1, d2] }
  | _ => none }
def FnExactHarshTimesWrongFalsely : Prop := fnExactHarshTimesRow.holds Try.pinned (OpenSpec.ofChange fnExactHarshTimesWrong)

/-- 'laws.FnDampers': WHATEVER THE INPUT: true; the input reads as it did. -/
def fnDampersSpec : ChangeSpec := { name := "fnDampers", fn := fun _ => fun
  | [d] => { results := [.lit (.bool true)], args := [d] }
  | _ => none }
def fnDampersRow : OpenClaim := { program := "ythgeijgojdmidaa", sum := "a80042c1825ef6a7332a329408477ebf84fe7e06f3fc1b497f9ff06972c4b3f5", func := "loop.example/g03309/laws.FnDampers", spec := "fnDampers", apart := false }
def FnDampersSaid : Prop := fnDampersRow.holds Try.pinned (OpenSpec.ofChange fnDampersSpec)

/-- ITS FALSE NEIGHBOUR: 'it returns false'. Refute it at one input. -/
def fnDampersWrong : ChangeSpec := { name := "fnDampers", fn := fun _ => fun
  | [d] => { results := [.lit (.bool false)], args := [d] }
  | _ => none }
def FnDampersWrongFalsely : Prop := fnDampersRow.holds Try.pinned (OpenSpec.ofChange fnDampersWrong)

/-- 'laws.FnExactBestOrder': WHATEVER THE INPUT: true; the input reads as it did. -/
def fnExactBestOrderSpec : ChangeSpec := { name := "fnExactBestOrder", fn := fun _ => fun
  | [d] => { results := [.lit (.bool true)], args := [d] }
  | _ => none }
def fnExactBestOrderRow : OpenClaim := { program := "ythgeijgojdmidaa", sum := "a80042c1825ef6a7332a329408477ebf84fe7e06f3fc1b497f9ff06972c4b3f5", func := "loop.example/g03309/laws.FnExactBestOrder", spec := "fnExactBestOrder", recurses := true, apart := false }
def FnExactBestOrderSaid : Prop := fnExactBestOrderRow.holds Try.pinned (OpenSpec.ofChange fnExactBestOrderSpec)

/-- ITS FALSE NEIGHBOUR: 'it returns false'. Refute it at one input. -/
def fnExactBestOrderWrong : ChangeSpec := { name := "fnExactBestOrder", fn := fun _ => fun
  | [d] => { results := [.lit (.bool false)], args := [d] }
  | _ => none }
def FnExactBestOrderWrongFalsely : Prop := fnExactBestOrderRow.holds Try.pinned (OpenSpec.ofChange fnExactBestOrderWrong)

/-- 'laws.FnExactTrackOrder': WHATEVER THE INPUT: true; the input reads as it did. -/
def fnExactTrackOrderSpec : ChangeSpec := { name := "fnExactTrackOrder", fn := fun _ => fun
  | [d] => { results := [.lit (.bool true)], args := [d] }
  | _ => none }
def fnExactTrackOrderRow : OpenClaim := { program := "ythgeijgojdmidaa", sum := "a80042c1825ef6a7332a329408477ebf84fe7e06f3fc1b497f9ff06972c4b3f5", func := "loop.example/g03309/laws.FnExactTrackOrder", spec := "fnExactTrackOrder", unfollowed := true, recurses := true, apart := false }
def FnExactTrackOrderSaid : Prop := fnExactTrackOrderRow.holds Try.pinned (OpenSpec.ofChange fnExactTrackOrderSpec)

/-- ITS FALSE NEIGHBOUR: 'it returns false'. Refute it at one input. -/
def fnExactTrackOrderWrong : ChangeSpec := { name := "fnExactTrackOrder", fn := fun _ => fun
  | [d] => { results := [.lit (.bool false)], args := [d] }
  | _ => none }
def FnExactTrackOrderWrongFalsely : Prop := fnExactTrackOrderRow.holds Try.pinned (OpenSpec.ofChange fnExactTrackOrderWrong)

/-- 'laws.FnExactFindContour': WHATEVER THE INPUT: true; the input reads as it did. -/
def fnExactFindContourSpec : ChangeSpec := { name := "fnExactFindContour", fn := fun _ => fun
  | [d1, d2] => { results := [.lit (.bool true)], args := [d1, d2] }
  | _ => none }
def fnExactFindContourRow : OpenClaim := { program := "ythgeijgojdmidaa", sum := "a80042c1825ef6a7332a329408477ebf84fe7e06f3fc1b497f9ff06972c4b3f5", func := "loop.example/g03309/laws.FnExactFindContour", spec := "fnExactFindContour", inPlace := ["internal/bytealg.IndexByteString", "internal/bytealg.IndexString"], named := ["internal/bytealg.MaxLen"], apart := false }
def FnExactFindContourSaid : Prop := fnExactFindContourRow.holds Try.pinned (OpenSpec.ofChange fnExactFindContourSpec)

/-- ITS FALSE NEIGHBOUR: 'it returns false'. Refute it at one input. -/
def fnExactFindContourWrong : ChangeSpec := { name := "fnExactFindContour", fn := fun _ => fun
  | [d1, d2] => { results := [.lit (.bool false)], args := [d1, d2] }
  | _ => none }
def FnExactFindContourWrongFalsely : Prop := fnExactFindContourRow.holds Try.pinned (OpenSpec.ofChange fnExactFindContourWrong)

/-- 'laws.FnContours': WHATEVER THE INPUT: true; the input reads as it did. -/
def fnContoursSpec : ChangeSpec := { name := "fnContours", fn := fun _ => fun
  | [d] => { results := [.lit (.bool true)], args := [d] }
  | _ => none }
def fnContoursRow : OpenClaim := { program := "ythgeijgojdmidaa", sum := "a80042c1825ef6a7332a329408477ebf84fe7e06f3fc1b497f9ff06972c4b3f5", func := "loop.example/g03309/laws.FnContours", spec := "fnContours", inPlace := ["internal/bytealg.CountString", "internal/bytealg.IndexByteString", "internal/bytealg.IndexString"], named := ["internal/bytealg.MaxLen"], apart := false }
def FnContoursSaid : Prop := fnContoursRow.holds Try.pinned (OpenSpec.ofChange fnContoursSpec)

/-- ITS FALSE NEIGHBOUR: 'it returns false'. Refute it at one input. -/
def fnContoursWrong : ChangeSpec := { name := "fnContours", fn := fun _ => fun
  | [d] => { results := [.lit (.bool false)], args := [d] }
  | _ => none }
def FnContoursWrongFalsely : Prop := fnContoursRow.holds Try.pinned (OpenSpec.ofChange fnContoursWrong)

/-- 'laws.FnPunches': WHATEVER THE INPUT: true; the input reads as it did. -/
def fnPunchesSpec : ChangeSpec := { name := "fnPunches", fn := fun _ => fun
  | [d] => { results := [.lit (.bool true)], args := [d] }
  | _ => none }
def fnPunchesRow : OpenClaim := { program := "ythgeijgojdmidaa", sum := "a80042c1825ef6a7332a329408477ebf84fe7e06f3fc1b497f9ff06972c4b3f5", func := "loop.example/g03309/laws.FnPunches", spec := "fnPunches", unfollowed := true, recurses := true, apart := false }
def FnPunchesSaid : Prop := fnPunchesRow.holds Try.pinned (OpenSpec.ofChange fnPunchesSpec)

/-- ITS FALSE NEIGHBOUR: 'it returns false'. Refute it at one input. -/
def fnPunchesWrong : ChangeSpec := { name := "fnPunches", fn := fun _ => fun
  | [d] => { results := [.lit (.bool false)], args := [d] }
  | _ => none }
def FnPunchesWrongFalsely : Prop := fnPunchesRow.holds Try.pinned (OpenSpec.ofChange fnPunchesWrong)

/-- 'laws.FnExactAroundTurn': WHATEVER THE INPUT: true; the input reads as it did. -/
def fnExactAroundTurnSpec : ChangeSpec := { name := "fnExactAroundTurn", fn := fun _ => fun
  | [d1, d2, d3] => { results := [.lit (.bool true)], args := [d1, d2, d3] }
  | _ => none }
def fnExactAroundTurnRow : OpenClaim := { program := "ythgeijgojdmidaa", sum := "a80042c1825ef6a7332a329408477ebf84fe7e06f3fc1b497f9ff06972c4b3f5", func := "loop.example/g03309/laws.FnExactAroundTurn", spec := "fnExactAroundTurn", unfollowed := true, recurses := true, apart := false }
def FnExactAroundTurnSaid : Prop := fnExactAroundTurnRow.holds Try.pinned (OpenSpec.ofChange fnExactAroundTurnSpec)

/-- ITS FALSE NEIGHBOUR: 'it returns false'. Refute it at one input. -/
def fnExactAroundTurnWrong : ChangeSpec := { name := "fnExactAroundTurn", fn := fun _ => fun
  | [d1, d2, d3] => { results := [.lit (.bool false)], args := [d1, d2, d3] }
  | _ => none }
def FnExactAroundTurnWrongFalsely : Prop := fnExactAroundTurnRow.holds Try.pinned (OpenSpec.ofChange fnExactAroundTurnWrong)

/-- 'laws.FnExactSameAround': WHATEVER THE INPUT: true; the input reads as it did. -/
def fnExactSameAroundSpec : ChangeSpec := { name := "fnExactSameAround", fn := fun _ => fun
  | [d1, d2, d3] => { results := [.lit (.bool true)], args := [d1, d2, d3] }
  | _ => none }
def fnExactSameAroundRow : OpenClaim := { program := "ythgeijgojdmidaa", sum := "a80042c1825ef6a7332a329408477ebf84fe7e06f3fc1b497f9ff06972c4b3f5", func := "loop.example/g03309/laws.FnExactSameAround", spec := "fnExactSameAround", unfollowed := true, recurses := true, apart := false }
def FnExactSameAroundSaid : Prop := fnExactSameAroundRow.holds Try.pinned (OpenSpec.ofChange fnExactSameAroundSpec)

/-- ITS FALSE NEIGHBOUR: 'it returns false'. Refute it at one input. -/
def fnExactSameAroundWrong : ChangeSpec := { name := "fnExactSameAround", fn := fun _ => fun
  | [d1, d2, d3] => { results := [.lit (.bool false)], args := [d1, d2, d3] }
  | _ => none }
def FnExactSameAroundWrongFalsely : Prop := fnExactSameAroundRow.holds Try.pinned (OpenSpec.ofChange fnExactSameAroundWrong)

/- THE SECOND FORM. 'bulk': how many values and letters a reading holds, each counted each time it is reached (what is shared counts as often as it is met; a slice's spare places count too). A statement '..UptoSaid' is the law's where the arguments, and the package variables that the reading takes, are together of bulk at most 1048576: NARROWER than '..Said'. Prove '..Said' where nothing that the law and all that it calls make is longer than what came in: it says more and counts as full. Else prove '..UptoSaid'. A law counts once. -/
mutual
def uptoBulk {H : Type} : DataW H → Nat
  | .lit (.string bytes) => bytes.length + 1
  | .lit _ => 1
  | .nil => 1
  | .ptr d => uptoBulk d + 1
  | .slice elems spare => uptoBulkAll elems + uptoBulkAll spare + 1
  | .agg parts => uptoBulkAll parts + 1
  | .iface _ d => uptoBulk d + 1
  | .map entries => uptoBulkEntries entries + 1
  | .held _ => 1
def uptoBulkAll {H : Type} : List (DataW H) → Nat
  | [] => 0
  | d :: r => uptoBulk d + uptoBulkAll r
def uptoBulkEntries {H : Type} : List (Lit × DataW H) → Nat
  | [] => 0
  | x :: r => uptoBulkEntry x + uptoBulkEntries r
def uptoBulkEntry {H : Type} : Lit × DataW H → Nat
  | (.string bytes, d) => bytes.length + uptoBulk d + 1
  | (_, d) => uptoBulk d + 1
 end
def uptoSmall : (H : Type) → List (DataW H) → Bool := fun _ ds => decide (uptoBulkAll ds ≤ 1048576)
def OpenSpec.upto (s : _root_.Go.ChangeSpec) : _root_.Go.OpenSpec := { _root_.Go.OpenSpec.ofChange s with cond := some uptoSmall }

/-- 'laws.FnExactWayCost', WHERE WHAT IT READS IS OF BULK AT MOST 1048576: true; the input reads as it did. -/
def fnExactWayCostUptoRow : OpenClaim := { program := "ythgeijgojdmidaa", sum := "a80042c1825ef6a7332a329408477ebf84fe7e06f3fc1b497f9ff06972c4b3f5", func := "loop.example/g03309/laws.FnExactWayCost", spec := "fnExactWayCost", apart := false, narrowed := true }
def FnExactWayCostUptoSaid : Prop := fnExactWayCostUptoRow.holds Try.pinned (OpenSpec.upto fnExactWayCostSpec)

/-- 'laws.FnExactNearestOrder', WHERE WHAT IT READS IS OF BULK AT MOST 1048576: true; the input reads as it did. -/
def fnExactNearestOrderUptoRow : OpenClaim := { program := "ythgeijgojdmidaa", sum := "a80042c1825ef6a7332a329408477ebf84fe7e06f3fc1b497f9ff06972c4b3f5", func := "loop.example/g03309/laws.FnExactNearestOrder", spec := "fnExactNearestOrder", apart := false, narrowed := true }
def FnExactNearestOrderUptoSaid : Prop := fnExactNearestOrderUptoRow.holds Try.pinned (OpenSpec.upto fnExactNearestOrderSpec)

/-- 'laws.FnExactLongestClean', WHERE WHAT IT READS IS OF BULK AT MOST 1048576: true; the input reads as it did. -/
def fnExactLongestCleanUptoRow : OpenClaim := { program := "ythgeijgojdmidaa", sum := "a80042c1825ef6a7332a329408477ebf84fe7e06f3fc1b497f9ff06972c4b3f5", func := "loop.example/g03309/laws.FnExactLongestClean", spec := "fnExactLongestClean", apart := false, narrowed := true }
def FnExactLongestCleanUptoSaid : Prop := fnExactLongestCleanUptoRow.holds Try.pinned (OpenSpec.upto fnExactLongestCleanSpec)

/-- 'laws.FnExactHarshTimes', WHERE WHAT IT READS IS OF BULK AT MOST 1048576: true; the input reads as it did. -/
def fnExactHarshTimesUptoRow : OpenClaim := { program := "ythgeijgojdmidaa", sum := "a80042c1825ef6a7332a329408477ebf84fe7e06f3fc1b497f9ff06972c4b3f5", func := "loop.example/g03309/laws.FnExactHarshTimes", spec := "fnExactHarshTimes", apart := false, narrowed := true }
def FnExactHarshTimesUptoSaid : Prop := fnExactHarshTimesUptoRow.holds Try.pinned (OpenSpec.upto fnExactHarshTimesSpec)

/-- 'laws.FnDampers', WHERE WHAT IT READS IS OF BULK AT MOST 1048576: true; the input reads as it did. -/
def fnDampersUptoRow : OpenClaim := { program := "ythgeijgojdmidaa", sum := "a80042c1825ef6a7332a329408477ebf84fe7e06f3fc1b497f9ff06972c4b3f5", func := "loop.example/g03309/laws.FnDampers", spec := "fnDampers", apart := false, narrowed := true }
def FnDampersUptoSaid : Prop := fnDampersUptoRow.holds Try.pinned (OpenSpec.upto fnDampersSpec)

/-- 'laws.FnExactBestOrder', WHERE WHAT IT READS IS OF BULK AT MOST 1048576: true; the input reads as it did. -/
def fnExactBestOrderUptoRow : OpenClaim := { program := "ythgeijgojdmidaa", sum := "a80042c1825ef6a7332a329408477ebf84fe7e06f3fc1b497f9ff06972c4b3f5", func := "loop.example/g03309/laws.FnExactBestOrder", spec := "fnExactBestOrder", recurses := true, apart := false, narrowed := true }
def FnExactBestOrderUptoSaid : Prop := fnExactBestOrderUptoRow.holds Try.pinned (OpenSpec.upto fnExactBestOrderSpec)

/-- 'laws.FnExactTrackOrder', WHERE WHAT IT READS IS OF BULK AT MOST 1048576: true; the input reads as it did. -/
def fnExactTrackOrderUptoRow : OpenClaim := { program := "ythgeijgojdmidaa", sum := "a80042c1825ef6a7332a329408477ebf84fe7e06f3fc1b497f9ff06972c4b3f5", func := "loop.example/g03309/laws.FnExactTrackOrder", spec := "fnExactTrackOrder", unfollowed := true, recurses := true, apart := false, narrowed := true }
def FnExactTrackOrderUptoSaid : Prop := fnExactTrackOrderUptoRow.holds Try.pinned (OpenSpec.upto fnExactTrackOrderSpec)

/-- 'laws.FnExactFindContour', WHERE WHAT IT READS IS OF BULK AT MOST 1048576: true; the input reads as it did. -/
def fnExactFindContourUptoRow : OpenClaim := { program := "ythgeijgojdmidaa", sum := "a80042c1825ef6a7332a329408477ebf84fe7e06f3fc1b497f9ff06972c4b3f5", func := "loop.example/g03309/laws.FnExactFindContour", spec := "fnExactFindContour", inPlace := ["internal/bytealg.IndexByteString", "internal/bytealg.IndexString"], named := ["internal/bytealg.MaxLen"], apart := false, narrowed := true }
def FnExactFindContourUptoSaid : Prop := fnExactFindContourUptoRow.holds Try.pinned (OpenSpec.upto fnExactFindContourSpec)

/-- 'laws.FnContours', WHERE WHAT IT READS IS OF BULK AT MOST 1048576: true; the input reads as it did. -/
def fnContoursUptoRow : OpenClaim := { program := "ythgeijgojdmidaa", sum := "a80042c1825ef6a7332a329408477ebf84fe7e06f3fc1b497f9ff06972c4b3f5", func := "loop.example/g03309/laws.FnContours", spec := "fnContours", inPlace := ["internal/bytealg.CountString", "internal/bytealg.IndexByteString", "internal/bytealg.IndexString"], named := ["internal/bytealg.MaxLen"], apart := false, narrowed := true }
def FnContoursUptoSaid : Prop := fnContoursUptoRow.holds Try.pinned (OpenSpec.upto fnContoursSpec)

/-- 'laws.FnPunches', WHERE WHAT IT READS IS OF BULK AT MOST 1048576: true; the input reads as it did. -/
def fnPunchesUptoRow : OpenClaim := { program := "ythgeijgojdmidaa", sum := "a80042c1825ef6a7332a329408477ebf84fe7e06f3fc1b497f9ff06972c4b3f5", func := "loop.example/g03309/laws.FnPunches", spec := "fnPunches", unfollowed := true, recurses := true, apart := false, narrowed := true }
def FnPunchesUptoSaid : Prop := fnPunchesUptoRow.holds Try.pinned (OpenSpec.upto fnPunchesSpec)

/-- 'laws.FnExactAroundTurn', WHERE WHAT IT READS IS OF BULK AT MOST 1048576: true; the input reads as it did. -/
def fnExactAroundTurnUptoRow : OpenClaim := { program := "ythgeijgojdmidaa", sum := "a80042c1825ef6a7332a329408477ebf84fe7e06f3fc1b497f9ff06972c4b3f5", func := "loop.example/g03309/laws.FnExactAroundTurn", spec := "fnExactAroundTurn", unfollowed := true, recurses := true, apart := false, narrowed := true }
def FnExactAroundTurnUptoSaid : Prop := fnExactAroundTurnUptoRow.holds Try.pinned (OpenSpec.upto fnExactAroundTurnSpec)

/-- 'laws.FnExactSameAround', WHERE WHAT IT READS IS OF BULK AT MOST 1048576: true; the input reads as it did. -/
def fnExactSameAroundUptoRow : OpenClaim := { program := "ythgeijgojdmidaa", sum := "a80042c1825ef6a7332a329408477ebf84fe7e06f3fc1b497f9ff06972c4b3f5", func := "loop.example/g03309/laws.FnExactSameAround", spec := "fnExactSameAround", unfollowed := true, recurses := true, apart := false, narrowed := true }
def FnExactSameAroundUptoSaid : Prop := fnExactSameAroundUptoRow.holds Try.pinned (OpenSpec.upto fnExactSameAroundSpec)

end Rows
end Go.Proofs.Ythgeijgojdmidaa
