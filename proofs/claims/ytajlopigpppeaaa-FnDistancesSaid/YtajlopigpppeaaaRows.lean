/-
  No cell of these rows narrows 'for every input' (looked for: loops, veiled, ifaces, maps, wideKeys, modest, calm, conditions, laid).
  DERIVED. THE GIVEN ROWS OF THIS SEAT. 8 by the template 'for every input the law returns true; each argument reads behind the call as it read before'; 0 by the template 'total and deterministic' (their statements: YtajlopigpppeaaaTotals.lean).
  GIVEN WITH THE SEED: the statements are not yours to turn. If you find one false, say at which input.
  Laid BY PROGRAM, IN A SANDBOX (cutbox-rows.mjs): the forced cells as the released guide's own fill.sh prints them over the translation e0a2b4e8b53f1ee4… (all of the seat's roots in one cut). By AI agents, Wed Nov 11 2026. No macro, syntax, notation, axiom, sorry.
-/
import Derived.Test.YtajlopigpppeaaaChecked
import GoSem.Claim
import GoSem.ClaimJoined
import GoSem.ClaimMapViews
import Derived.JoinedTies
import Derived.KernelRfl
namespace Go.Proofs.Ytajlopigpppeaaa
/- THE CELL 'sum', in the pinned program and in every row, IS THE sha256 OF THE DUMP (.gsa) THAT YtajlopigpppeaaaProg.lean LOADS. Nothing in Lean hashes anything: it is a label: what it is worth is what the hold of that sum in a sandbox is worth. -/
noncomputable def Try.pinned : Pinned := { name := "ytajlopigpppeaaa", sum := "e0a2b4e8b53f1ee4dde763b34058d6e916f70a5dad2ea1107129d7e9bcad84c5", checked := Try.checked }
namespace Rows
def none {H : Type} : Left H := { results := [], args := [] }

/-- 'laws.FnExactDiffTimes': WHATEVER THE INPUT: true; the input reads as it did. -/
def fnExactDiffTimesSpec : ChangeSpec := { name := "fnExactDiffTimes", fn := fun _ => fun
  | [d1, d2] => { results := [.lit (.bool true)], args := [d1, d2] }
  | _ => none }
def fnExactDiffTimesRow : OpenClaim := { program := "ytajlopigpppeaaa", sum := "e0a2b4e8b53f1ee4dde763b34058d6e916f70a5dad2ea1107129d7e9bcad84c5", func := "loop.example/g03309/laws.FnExactDiffTimes", spec := "fnExactDiffTimes", unfollowed := true, recurses := true, apart := false }
def FnExactDiffTimesSaid : Prop := fnExactDiffTimesRow.holds Try.pinned (OpenSpec.ofChange fnExactDiffTimesSpec)

/-- ITS FALSE NEIGHBOUR: 'it returns false'. Refute it at one input. -/
def fnExactDiffTimesWrong : ChangeSpec := { name := "fnExactDiffTimes", fn := fun _ => fun
  | [d1, d2] => { results := [.lit (.bool false)], args := [d1, d2] }
  | _ => none }
def FnExactDiffTimesWrongFalsely : Prop := fnExactDiffTimesRow.holds Try.pinned (OpenSpec.ofChange fnExactDiffTimesWrong)

/-- 'laws.FnExactWithItself': WHATEVER THE INPUT: true; the input reads as it did. -/
def fnExactWithItselfSpec : ChangeSpec := { name := "fnExactWithItself", fn := fun _ => fun
  | [d1, d2] => { results := [.lit (.bool true)], args := [d1, d2] }
  | _ => none }
def fnExactWithItselfRow : OpenClaim := { program := "ytajlopigpppeaaa", sum := "e0a2b4e8b53f1ee4dde763b34058d6e916f70a5dad2ea1107129d7e9bcad84c5", func := "loop.example/g03309/laws.FnExactWithItself", spec := "fnExactWithItself", unfollowed := true, recurses := true, apart := false }
def FnExactWithItselfSaid : Prop := fnExactWithItselfRow.holds Try.pinned (OpenSpec.ofChange fnExactWithItselfSpec)

/-- ITS FALSE NEIGHBOUR: 'it returns false'. Refute it at one input. -/
def fnExactWithItselfWrong : ChangeSpec := { name := "fnExactWithItself", fn := fun _ => fun
  | [d1, d2] => { results := [.lit (.bool false)], args := [d1, d2] }
  | _ => none }
def FnExactWithItselfWrongFalsely : Prop := fnExactWithItselfRow.holds Try.pinned (OpenSpec.ofChange fnExactWithItselfWrong)

/-- 'laws.FnCanons': WHATEVER THE INPUT: true; the input reads as it did. -/
def fnCanonsSpec : ChangeSpec := { name := "fnCanons", fn := fun _ => fun
  | [d] => { results := [.lit (.bool true)], args := [d] }
  | _ => none }
def fnCanonsRow : OpenClaim := { program := "ytajlopigpppeaaa", sum := "e0a2b4e8b53f1ee4dde763b34058d6e916f70a5dad2ea1107129d7e9bcad84c5", func := "loop.example/g03309/laws.FnCanons", spec := "fnCanons", unfollowed := true, recurses := true, apart := false }
def FnCanonsSaid : Prop := fnCanonsRow.holds Try.pinned (OpenSpec.ofChange fnCanonsSpec)

/-- ITS FALSE NEIGHBOUR: 'it returns false'. Refute it at one input. -/
def fnCanonsWrong : ChangeSpec := { name := "fnCanons", fn := fun _ => fun
  | [d] => { results := [.lit (.bool false)], args := [d] }
  | _ => none }
def FnCanonsWrongFalsely : Prop := fnCanonsRow.holds Try.pinned (OpenSpec.ofChange fnCanonsWrong)

/-- 'laws.FnDistances': WHATEVER THE INPUT: true; the input reads as it did. -/
def fnDistancesSpec : ChangeSpec := { name := "fnDistances", fn := fun _ => fun
  | [d] => { results := [.lit (.bool true)], args := [d] }
  | _ => none }
def fnDistancesRow : OpenClaim := { program := "ytajlopigpppeaaa", sum := "e0a2b4e8b53f1ee4dde763b34058d6e916f70a5dad2ea1107129d7e9bcad84c5", func := "loop.example/g03309/laws.FnDistances", spec := "fnDistances", unfollowed := true, recurses := true, apart := false }
def FnDistancesSaid : Prop := fnDistancesRow.holds Try.pinned (OpenSpec.ofChange fnDistancesSpec)

/-- ITS FALSE NEIGHBOUR: 'it returns false'. Refute it at one input. -/
def fnDistancesWrong : ChangeSpec := { name := "fnDistances", fn := fun _ => fun
  | [d] => { results := [.lit (.bool false)], args := [d] }
  | _ => none }
def FnDistancesWrongFalsely : Prop := fnDistancesRow.holds Try.pinned (OpenSpec.ofChange fnDistancesWrong)

/-- 'laws.FnExactRoundHarsh': WHATEVER THE INPUT: true; the input reads as it did. -/
def fnExactRoundHarshSpec : ChangeSpec := { name := "fnExactRoundHarsh", fn := fun _ => fun
  | [d1, d2] => { results := [.lit (.bool true)], args := [d1, d2] }
  | _ => none }
def fnExactRoundHarshRow : OpenClaim := { program := "ytajlopigpppeaaa", sum := "e0a2b4e8b53f1ee4dde763b34058d6e916f70a5dad2ea1107129d7e9bcad84c5", func := "loop.example/g03309/laws.FnExactRoundHarsh", spec := "fnExactRoundHarsh", unfollowed := true, recurses := true, apart := false }
def FnExactRoundHarshSaid : Prop := fnExactRoundHarshRow.holds Try.pinned (OpenSpec.ofChange fnExactRoundHarshSpec)

/-- ITS FALSE NEIGHBOUR: 'it returns false'. Refute it at one input. -/
def fnExactRoundHarshWrong : ChangeSpec := { name := "fnExactRoundHarsh", fn := fun _ => fun
  | [d1, d2] => { results := [.lit (.bool false)], args := [d1, d2] }
  | _ => none }
def FnExactRoundHarshWrongFalsely : Prop := fnExactRoundHarshRow.holds Try.pinned (OpenSpec.ofChange fnExactRoundHarshWrong)

/-- 'laws.FnExactBestRound': WHATEVER THE INPUT: true; the input reads as it did. -/
def fnExactBestRoundSpec : ChangeSpec := { name := "fnExactBestRound", fn := fun _ => fun
  | [d1, d2] => { results := [.lit (.bool true)], args := [d1, d2] }
  | _ => none }
def fnExactBestRoundRow : OpenClaim := { program := "ytajlopigpppeaaa", sum := "e0a2b4e8b53f1ee4dde763b34058d6e916f70a5dad2ea1107129d7e9bcad84c5", func := "loop.example/g03309/laws.FnExactBestRound", spec := "fnExactBestRound", unfollowed := true, recurses := true, apart := false }
def FnExactBestRoundSaid : Prop := fnExactBestRoundRow.holds Try.pinned (OpenSpec.ofChange fnExactBestRoundSpec)

/-- ITS FALSE NEIGHBOUR: 'it returns false'. Refute it at one input. -/
def fnExactBestRoundWrong : ChangeSpec := { name := "fnExactBestRound", fn := fun _ => fun
  | [d1, d2] => { results := [.lit (.bool false)], args := [d1, d2] }
  | _ => none }
def FnExactBestRoundWrongFalsely : Prop := fnExactBestRoundRow.holds Try.pinned (OpenSpec.ofChange fnExactBestRoundWrong)

/-- 'laws.FnExactAfterTurns': WHATEVER THE INPUT: true; the input reads as it did. -/
def fnExactAfterTurnsSpec : ChangeSpec := { name := "fnExactAfterTurns", fn := fun _ => fun
  | [d1, d2] => { results := [.lit (.bool true)], args := [d1, d2] }
  | _ => none }
def fnExactAfterTurnsRow : OpenClaim := { program := "ytajlopigpppeaaa", sum := "e0a2b4e8b53f1ee4dde763b34058d6e916f70a5dad2ea1107129d7e9bcad84c5", func := "loop.example/g03309/laws.FnExactAfterTurns", spec := "fnExactAfterTurns", apart := false }
def FnExactAfterTurnsSaid : Prop := fnExactAfterTurnsRow.holds Try.pinned (OpenSpec.ofChange fnExactAfterTurnsSpec)

/-- ITS FALSE NEIGHBOUR: 'it returns false'. Refute it at one input. -/
def fnExactAfterTurnsWrong : ChangeSpec := { name := "fnExactAfterTurns", fn := fun _ => fun
  | [d1, d2] => { results := [.lit (.bool false)], args := [d1, d2] }
  | _ => none }
def FnExactAfterTurnsWrongFalsely : Prop := fnExactAfterTurnsRow.holds Try.pinned (OpenSpec.ofChange fnExactAfterTurnsWrong)

/-- 'laws.FnExactCountUps': WHATEVER THE INPUT: true; the input reads as it did. -/
def fnExactCountUpsSpec : ChangeSpec := { name := "fnExactCountUps", fn := fun _ => fun
  | [d] => { results := [.lit (.bool true)], args := [d] }
  | _ => none }
def fnExactCountUpsRow : OpenClaim := { program := "ytajlopigpppeaaa", sum := "e0a2b4e8b53f1ee4dde763b34058d6e916f70a5dad2ea1107129d7e9bcad84c5", func := "loop.example/g03309/laws.FnExactCountUps", spec := "fnExactCountUps", inPlace := ["internal/bytealg.CountString", "internal/bytealg.IndexByteString", "internal/bytealg.IndexString"], named := ["internal/bytealg.MaxLen"], apart := false }
def FnExactCountUpsSaid : Prop := fnExactCountUpsRow.holds Try.pinned (OpenSpec.ofChange fnExactCountUpsSpec)

/-- ITS FALSE NEIGHBOUR: 'it returns false'. Refute it at one input. -/
def fnExactCountUpsWrong : ChangeSpec := { name := "fnExactCountUps", fn := fun _ => fun
  | [d] => { results := [.lit (.bool false)], args := [d] }
  | _ => none }
def FnExactCountUpsWrongFalsely : Prop := fnExactCountUpsRow.holds Try.pinned (OpenSpec.ofChange fnExactCountUpsWrong)

/- THE SECOND FORM. 'bulk': how many values and letters a reading holds, each counted each time it is reached (what is shared counts as often as it is met; a slice's spare places count too). A statement '..UptoSaid' is the law's where the arguments, and the package variables that the reading takes, are together of bulk at most 1048576: NARROWER than '..Said'. Prove '..Said' where nothing that the law and all that it calls make is longer than what came in: it says more and counts as full. Else prove '..UptoSaid'. A law counts once. -/
mutual
def uptoBulk {H : Type} : DataW H → Nat
  | .lit (.string bytes) => bytes.length + 1
  | .lit _ => 1
  | .nil => 1
  | .ptr d => uptoBulk d + 1
  | .slice elems spare => uptoBulkAll elems + uptoBulkAll spare + 1
  | .agg parts => uptoBulkAll parts + 1
  | .iface _ d => uptoBulk d + 1
  | .map entries => uptoBulkEntries entries + 1
  | .held _ => 1
def uptoBulkAll {H : Type} : List (DataW H) → Nat
  | [] => 0
  | d :: r => uptoBulk d + uptoBulkAll r
def uptoBulkEntries {H : Type} : List (Lit × DataW H) → Nat
  | [] => 0
  | x :: r => uptoBulkEntry x + uptoBulkEntries r
def uptoBulkEntry {H : Type} : Lit × DataW H → Nat
  | (.string bytes, d) => bytes.length + uptoBulk d + 1
  | (_, d) => uptoBulk d + 1
 end
def uptoSmall : (H : Type) → List (DataW H) → Bool := fun _ ds => decide (uptoBulkAll ds ≤ 1048576)
def OpenSpec.upto (s : _root_.Go.ChangeSpec) : _root_.Go.OpenSpec := { _root_.Go.OpenSpec.ofChange s with cond := some uptoSmall }

/-- 'laws.FnExactDiffTimes', WHERE WHAT IT READS IS OF BULK AT MOST 1048576: true; the input reads as it did. -/
def fnExactDiffTimesUptoRow : OpenClaim := { program := "ytajlopigpppeaaa", sum := "e0a2b4e8b53f1ee4dde763b34058d6e916f70a5dad2ea1107129d7e9bcad84c5", func := "loop.example/g03309/laws.FnExactDiffTimes", spec := "fnExactDiffTimes", unfollowed := true, recurses := true, apart := false, narrowed := true }
def FnExactDiffTimesUptoSaid : Prop := fnExactDiffTimesUptoRow.holds Try.pinned (OpenSpec.upto fnExactDiffTimesSpec)

/-- 'laws.FnExactWithItself', WHERE WHAT IT READS IS OF BULK AT MOST 1048576: true; the input reads as it did. -/
def fnExactWithItselfUptoRow : OpenClaim := { program := "ytajlopigpppeaaa", sum := "e0a2b4e8b53f1ee4dde763b34058d6e916f70a5dad2ea1107129d7e9bcad84c5", func := "loop.example/g03309/laws.FnExactWithItself", spec := "fnExactWithItself", unfollowed := true, recurses := true, apart := false, narrowed := true }
def FnExactWithItselfUptoSaid : Prop := fnExactWithItselfUptoRow.holds Try.pinned (OpenSpec.upto fnExactWithItselfSpec)

/-- 'laws.FnCanons', WHERE WHAT IT READS IS OF BULK AT MOST 1048576: true; the input reads as it did. -/
def fnCanonsUptoRow : OpenClaim := { program := "ytajlopigpppeaaa", sum := "e0a2b4e8b53f1ee4dde763b34058d6e916f70a5dad2ea1107129d7e9bcad84c5", func := "loop.example/g03309/laws.FnCanons", spec := "fnCanons", unfollowed := true, recurses := true, apart := false, narrowed := true }
def FnCanonsUptoSaid : Prop := fnCanonsUptoRow.holds Try.pinned (OpenSpec.upto fnCanonsSpec)

/-- 'laws.FnDistances', WHERE WHAT IT READS IS OF BULK AT MOST 1048576: true; the input reads as it did. -/
def fnDistancesUptoRow : OpenClaim := { program := "ytajlopigpppeaaa", sum := "e0a2b4e8b53f1ee4dde763b34058d6e916f70a5dad2ea1107129d7e9bcad84c5", func := "loop.example/g03309/laws.FnDistances", spec := "fnDistances", unfollowed := true, recurses := true, apart := false, narrowed := true }
def FnDistancesUptoSaid : Prop := fnDistancesUptoRow.holds Try.pinned (OpenSpec.upto fnDistancesSpec)

/-- 'laws.FnExactRoundHarsh', WHERE WHAT IT READS IS OF BULK AT MOST 1048576: true; the input reads as it did. -/
def fnExactRoundHarshUptoRow : OpenClaim := { program := "ytajlopigpppeaaa", sum := "e0a2b4e8b53f1ee4dde763b34058d6e916f70a5dad2ea1107129d7e9bcad84c5", func := "loop.example/g03309/laws.FnExactRoundHarsh", spec := "fnExactRoundHarsh", unfollowed := true, recurses := true, apart := false, narrowed := true }
def FnExactRoundHarshUptoSaid : Prop := fnExactRoundHarshUptoRow.holds Try.pinned (OpenSpec.upto fnExactRoundHarshSpec)

/-- 'laws.FnExactBestRound', WHERE WHAT IT READS IS OF BULK AT MOST 1048576: true; the input reads as it did. -/
def fnExactBestRoundUptoRow : OpenClaim := { program := "ytajlopigpppeaaa", sum := "e0a2b4e8b53f1ee4dde763b34058d6e916f70a5dad2ea1107129d7e9bcad84c5", func := "loop.example/g03309/laws.FnExactBestRound", spec := "fnExactBestRound", unfollowed := true, recurses := true, apart := false, narrowed := true }
def FnExactBestRoundUptoSaid : Prop := fnExactBestRoundUptoRow.holds Try.pinned (OpenSpec.upto fnExactBestRoundSpec)

/-- 'laws.FnExactAfterTurns', WHERE WHAT IT READS IS OF BULK AT MOST 1048576: true; the input reads as it did. -/
def fnExactAfterTurnsUptoRow : OpenClaim := { program := "ytajlopigpppeaaa", sum := "e0a2b4e8b53f1ee4dde763b34058d6e916f70a5dad2ea1107129d7e9bcad84c5", func := "loop.example/g03309/laws.FnExactAfterTurns", spec := "fnExactAfterTurns", apart := false, narrowed := true }
def FnExactAfterTurnsUptoSaid : Prop := fnExactAfterTurnsUptoRow.holds Try.pinned (OpenSpec.upto fnExactAfterTurnsSpec)

/-- 'laws.FnExactCountUps', WHERE WHAT IT READS IS OF BULK AT MOST 1048576: true; the input reads as it did. -/
def fnExactCountUpsUptoRow : OpenClaim := { program := "ytajlopigpppeaaa", sum := "e0a2b4e8b53f1ee4dde763b34058d6e916f70a5dad2ea1107129d7e9bcad84c5", func := "loop.example/g03309/laws.FnExactCountUps", spec := "fnExactCountUps", inPlace := ["internal/bytealg.CountString", "internal/bytealg.IndexByteString", "internal/bytealg.IndexString"], named := ["internal/bytealg.MaxLen"], apart := false, narrowed := true }
def FnExactCountUpsUptoSaid : Prop := fnExactCountUpsUptoRow.holds Try.pinned (OpenSpec.upto fnExactCountUpsSpec)

end Rows
end Go.Proofs.Ytajlopigpppeaaa
