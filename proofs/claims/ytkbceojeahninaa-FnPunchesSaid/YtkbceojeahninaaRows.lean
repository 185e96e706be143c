/-
  No cell of these rows narrows 'for every input' (looked for: loops, veiled, ifaces, maps, wideKeys, modest, calm, conditions, laid).
  DERIVED. THE GIVEN ROWS OF THIS SEAT. 5 by the template 'for every input the law returns true; each argument reads behind the call as it read before'; 0 by the template 'total and deterministic' (their statements: YtkbceojeahninaaTotals.lean).
  GIVEN WITH THE SEED: the statements are not yours to turn. If you find one false, say at which input.
  Laid BY PROGRAM, IN A SANDBOX (cutbox-rows.mjs): the forced cells as the released guide's own fill.sh prints them over the translation d34259aac8a709bb… (all of the seat's roots in one cut). By AI agents, Wed Nov 11 2026. No macro, syntax, notation, axiom, sorry.
-/
import Derived.Test.YtkbceojeahninaaChecked
import GoSem.Claim
import GoSem.ClaimJoined
import GoSem.ClaimMapViews
import Derived.JoinedTies
import Derived.KernelRfl
namespace Go.Proofs.Ytkbceojeahninaa
/- THE CELL 'sum', in the pinned program and in every row, IS THE sha256 OF THE DUMP (.gsa) THAT YtkbceojeahninaaProg.lean LOADS. Nothing in Lean hashes anything: it is a label: what it is worth is what the hold of that sum in a sandbox is worth. -/
noncomputable def Try.pinned : Pinned := { name := "ytkbceojeahninaa", sum := "d34259aac8a709bb7787a515311cb958c03bf610835fa57cd28a712e57c23fb0", checked := Try.checked }
namespace Rows
def none {H : Type} : Left H := { results := [], args := [] }

/-- 'laws.FnRhythms': WHATEVER THE INPUT: true; the input reads as it did. -/
def fnRhythmsSpec : ChangeSpec := { name := "fnRhythms", fn := fun _ => fun
  | [d] => { results := [.lit (.bool true)], args := [d] }
  | _ => none }
def fnRhythmsRow : OpenClaim := { program := "ytkbceojeahninaa", sum := "d34259aac8a709bb7787a515311cb958c03bf610835fa57cd28a712e57c23fb0", func := "loop.example/g03309/laws.FnRhythms", spec := "fnRhythms", apart := false }
def FnRhythmsSaid : Prop := fnRhythmsRow.holds Try.pinned (OpenSpec.ofChange fnRhythmsSpec)

/-- ITS FALSE NEIGHBOUR: 'it returns false'. Refute it at one input. -/
def fnRhythmsWrong : ChangeSpec := { name := "fnRhythms", fn := fun _ => fun
  | [d] => { results := [.lit (.bool false)], args := [d] }
  | _ => none }
def FnRhythmsWrongFalsely : Prop := fnRhythmsRow.holds Try.pinned (OpenSpec.ofChange fnRhythmsWrong)

/-- 'laws.FnDampers': WHATEVER THE INPUT: true; the input reads as it did. -/
def fnDampersSpec : ChangeSpec := { name := "fnDampers", fn := fun _ => fun
  | [d] => { results := [.lit (.bool true)], args := [d] }
  | _ => none }
def fnDampersRow : OpenClaim := { program := "ytkbceojeahninaa", sum := "d34259aac8a709bb7787a515311cb958c03bf610835fa57cd28a712e57c23fb0", func := "loop.example/g03309/laws.FnDampers", spec := "fnDampers", apart := false }
def FnDampersSaid : Prop := fnDampersRow.holds Try.pinned (OpenSpec.ofChange fnDampersSpec)

/-- ITS FALSE NEIGHBOUR: 'it returns false'. Refute it at one input. -/
def fnDampersWrong : ChangeSpec := { name := "fnDampers", fn := fun _ => fun
  | [d] => { results := [.lit (.bool false)], args := [d] }
  | _ => none }
def FnDampersWrongFalsely : Prop := fnDampersRow.holds Try.pinned (OpenSpec.ofChange fnDampersWrong)

/-- 'laws.FnContours': WHATEVER THE INPUT: true; the input reads as it did. -/
def fnContoursSpec : ChangeSpec := { name := "fnContours", fn := fun _ => fun
  | [d] => { results := [.lit (.bool true)], args := [d] }
  | _ => none }
def fnContoursRow : OpenClaim := { program := "ytkbceojeahninaa", sum := "d34259aac8a709bb7787a515311cb958c03bf610835fa57cd28a712e57c23fb0", func := "loop.example/g03309/laws.FnContours", spec := "fnContours", inPlace := ["internal/bytealg.CountString", "internal/bytealg.IndexByteString", "internal/bytealg.IndexString"], named := ["internal/bytealg.MaxLen"], apart := false }
def FnContoursSaid : Prop := fnContoursRow.holds Try.pinned (OpenSpec.ofChange fnContoursSpec)

/-- ITS FALSE NEIGHBOUR: 'it returns false'. Refute it at one input. -/
def fnContoursWrong : ChangeSpec := { name := "fnContours", fn := fun _ => fun
  | [d] => { results := [.lit (.bool false)], args := [d] }
  | _ => none }
def FnContoursWrongFalsely : Prop := fnContoursRow.holds Try.pinned (OpenSpec.ofChange fnContoursWrong)

/-- 'laws.FnPunches': WHATEVER THE INPUT: true; the input reads as it did. -/
def fnPunchesSpec : ChangeSpec := { name := "fnPunches", fn := fun _ => fun
  | [d] => { results := [.lit (.bool true)], args := [d] }
  | _ => none }
def fnPunchesRow : OpenClaim := { program := "ytkbceojeahninaa", sum := "d34259aac8a709bb7787a515311cb958c03bf610835fa57cd28a712e57c23fb0", func := "loop.example/g03309/laws.FnPunches", spec := "fnPunches", unfollowed := true, recurses := true, apart := false }
def FnPunchesSaid : Prop := fnPunchesRow.holds Try.pinned (OpenSpec.ofChange fnPunchesSpec)

/-- ITS FALSE NEIGHBOUR: 'it returns false'. Refute it at one input. -/
def fnPunchesWrong : ChangeSpec := { name := "fnPunches", fn := fun _ => fun
  | [d] => { results := [.lit (.bool false)], args := [d] }
  | _ => none }
def FnPunchesWrongFalsely : Prop := fnPunchesRow.holds Try.pinned (OpenSpec.ofChange fnPunchesWrong)

/-- 'laws.FnExactTrackOrder': WHATEVER THE INPUT: true; the input reads as it did. -/
def fnExactTrackOrderSpec : ChangeSpec := { name := "fnExactTrackOrder", fn := fun _ => fun
  | [d] => { results := [.lit (.bool true)], args := [d] }
  | _ => none }
def fnExactTrackOrderRow : OpenClaim := { program := "ytkbceojeahninaa", sum := "d34259aac8a709bb7787a515311cb958c03bf610835fa57cd28a712e57c23fb0", func := "loop.example/g03309/laws.FnExactTrackOrder", spec := "fnExactTrackOrder", unfollowed := true, recurses := true, apart := false }
def FnExactTrackOrderSaid : Prop := fnExactTrackOrderRow.holds Try.pinned (OpenSpec.ofChange fnExactTrackOrderSpec)

/-- ITS FALSE NEIGHBOUR: 'it returns false'. Refute it at one input. -/
def fnExactTrackOrderWrong : ChangeSpec := { name := "fnExactTrackOrder", fn := fun _ => fun
  | [d] => { results := [.lit (.bool false)], args := [d] }
  | _ => none }
def FnExactTrackOrderWrongFalsely : Prop := fnExactTrackOrderRow.holds Try.pinned (OpenSpec.ofChange fnExactTrackOrderWrong)

/- THE SECOND FORM. 'bulk': how many values and letters a reading holds, each counted each time it is reached (what is shared counts as often as it is met; a slice's spare places count too). A statement '..UptoSaid' is the law's where the arguments, and the package variables that the reading takes, are together of bulk at most 1048576: NARROWER than '..Said'. Prove '..Said' where nothing that the law and all that it calls make is longer than what came in: it says more and counts as full. Else prove '..UptoSaid'. A law counts once. -/
mutual
def uptoBulk {H : Type} : DataW H → Nat
  | .lit (.string bytes) => bytes.length + 1
  | .lit _ => 1
  | .nil => 1
  | .ptr d => uptoBulk d + 1
  | .slice elems spare => uptoBulkAll elems + uptoBulkAll spare + 1
  | .agg parts => uptoBulkAll parts + 1
  | .iface _ d => uptoBulk d + 1
  | .map entries => uptoBulkEntries entries + 1
  | .held _ => 1
def uptoBulkAll {H : Type} : List (DataW H) → Nat
  | [] => 0
  | d :: r => uptoBulk d + uptoBulkAll r
def uptoBulkEntries {H : Type} : List (Lit × DataW H) → Nat
  | [] => 0
  | x :: r => uptoBulkEntry x + uptoBulkEntries r
def uptoBulkEntry {H : Type} : Lit × DataW H → Nat
  | (.string bytes, d) => bytes.length + uptoBulk d + 1
  | (_, d) => uptoBulk d + 1
 end
def uptoSmall : (H : Type) → List (DataW H) → Bool := fun _ ds => decide (uptoBulkAll ds ≤ 1048576)
def OpenSpec.upto (s : _root_.Go.ChangeSpec) : _root_.Go.OpenSpec := { _root_.Go.OpenSpec.ofChange s with cond := some uptoSmall }

/-- 'laws.FnRhythms', WHERE WHAT IT READS IS OF BULK AT MOST 1048576: true; the input reads as it did. -/
def fnRhythmsUptoRow : OpenClaim := { program := "ytkbceojeahninaa", sum := "d34259aac8a709bb7787a515311cb958c03bf610835fa57cd28a712e57c23fb0", func := "loop.example/g03309/laws.FnRhythms", spec := "fnRhythms", apart := false, narrowed := true }
def FnRhythmsUptoSaid : Prop := fnRhythmsUptoRow.holds Try.pinned (OpenSpec.upto fnRhythmsSpec)

/-- 'laws.FnDampers', WHERE WHAT IT READS IS OF BULK AT MOST 1048576: true; the input reads as it did. -/
def fnDampersUptoRow : OpenClaim := { program := "ytkbceojeahninaa", sum := "d34259aac8a709bb7787a515311cb958c03bf610835fa57cd28a712e57c23fb0", func := "loop.example/g03309/laws.FnDampers", spec := "fnDampers", apart := false, narrowed := true }
def FnDampersUptoSaid : Prop := fnDampersUptoRow.holds Try.pinned (OpenSpec.upto fnDampersSpec)

/-- 'laws.FnContours', WHERE WHAT IT READS IS OF BULK AT MOST 1048576: true; the input reads as it did. -/
def fnContoursUptoRow : OpenClaim := { program := "ytkbceojeahninaa", sum := "d34259aac8a709bb7787a515311cb958c03bf610835fa57cd28a712e57c23fb0", func := "loop.example/g03309/laws.FnContours", spec := "fnContours", inPlace := ["internal/bytealg.CountString", "internal/bytealg.IndexByteString", "internal/bytealg.IndexString"], named := ["internal/bytealg.MaxLen"], apart := false, narrowed := true }
def FnContoursUptoSaid : Prop := fnContoursUptoRow.holds Try.pinned (OpenSpec.upto fnContoursSpec)

/-- 'laws.FnPunches', WHERE WHAT IT READS IS OF BULK AT MOST 1048576: true; the input reads as it did. -/
def fnPunchesUptoRow : OpenClaim := { program := "ytkbceojeahninaa", sum := "d34259aac8a709bb7787a515311cb958c03bf610835fa57cd28a712e57c23fb0", func := "loop.example/g03309/laws.FnPunches", spec := "fnPunches", unfollowed := true, recurses := true, apart := false, narrowed := true }
def FnPunchesUptoSaid : Prop := fnPunchesUptoRow.holds Try.pinned (OpenSpec.upto fnPunchesSpec)

/-- 'laws.FnExactTrackOrder', WHERE WHAT IT READS IS OF BULK AT MOST 1048576: true; the input reads as it did. -/
def fnExactTrackOrderUptoRow : OpenClaim := { program := "ytkbceojeahninaa", sum := "d34259aac8a709bb7787a515311cb958c03bf610835fa57cd28a712e57c23fb0", func := "loop.example/g03309/laws.FnExactTrackOrder", spec := "fnExactTrackOrder", unfollowed := true, recurses := true, apart := false, narrowed := true }
def FnExactTrackOrderUptoSaid : Prop := fnExactTrackOrderUptoRow.holds Try.pinned (OpenSpec.upto fnExactTrackOrderSpec)

end Rows
end Go.Proofs.Ytkbceojeahninaa
