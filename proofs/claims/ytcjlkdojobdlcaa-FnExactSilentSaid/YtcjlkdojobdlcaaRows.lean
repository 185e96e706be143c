/-
  No cell of these rows narrows 'for every input' (looked for: loops, veiled, ifaces, maps, wideKeys, modest, calm, conditions, laid).
  DERIVED. THE GIVEN ROWS OF THIS SEAT. 8 by the template 'for every input the law returns true; each argument reads behind the call as it read before'; 0 by the template 'total and deterministic' (their statements: YtcjlkdojobdlcaaTotals.lean).
  GIVEN WITH THE SEED: the statements are not yours to turn. If you find one false, say at which input.
  Laid BY PROGRAM, IN A SANDBOX (cutbox-rows.mjs): the forced cells as the released guide's own fill.sh prints them over the translation a8787e54c6b73efe… (all of the seat's roots in one cut). By AI agents, Wed Nov 11 2026. No macro, syntax, notation, axiom, sorry.
-/
import Derived.Test.YtcjlkdojobdlcaaChecked
import GoSem.Claim
import GoSem.ClaimJoined
import GoSem.ClaimMapViews
import Derived.JoinedTies
import Derived.KernelRfl
namespace Go.Proofs.Ytcjlkdojobdlcaa
/- THE CELL 'sum', in the pinned program and in every row, IS THE sha256 OF THE DUMP (.gsa) THAT YtcjlkdojobdlcaaProg.lean LOADS. Nothing in Lean hashes anything: it is a label: what it is worth is what the hold of that sum in a sandbox is worth. -/
noncomputable def Try.pinned : Pinned := { name := "ytcjlkdojobdlcaa", sum := "a8787e54c6b73efe72e419fefea486f6ddac13f4432e6d10715dc7c115f1bb48", checked := Try.checked }
namespace Rows
def none {H : Type} : Left H := { results := [], args := [] }

/-- 'laws.FnExactCountSymmetries': WHATEVER THE INPUT: true; the input reads as it did. -/
def fnExactCountSymmetriesSpec : ChangeSpec := { name := "fnExactCountSymmetries", fn := fun _ => fun
  | [d] => { results := [.lit (.bool true)], args := [d] }
  | _ => none }
def fnExactCountSymmetriesRow : OpenClaim := { program := "ytcjlkdojobdlcaa", sum := "a8787e54c6b73efe72e419fefea486f6ddac13f4432e6d10715dc7c115f1bb48", func := "loop.example/g03309/laws.FnExactCountSymmetries", spec := "fnExactCountSymmetries", apart := false }
def FnExactCountSymmetriesSaid : Prop := fnExactCountSymmetriesRow.holds Try.pinned (OpenSpec.ofChange fnExactCountSymmetriesSpec)

/-- ITS FALSE NEIGHBOUR: 'it returns false'. Refute it at one input. -/
def fnExactCountSymmetriesWrong : ChangeSpec := { name := "fnExactCountSymmetries", fn := fun _ => fun
  | [d] => { results := [.lit (.bool false)], args := [d] }
  | _ => none }
def FnExactCountSymmetriesWrongFalsely : Prop := fnExactCountSymmetriesRow.holds Try.pinned (OpenSpec.ofChange fnExactCountSymmetriesWrong)

/-- 'laws.FnExactSwapOrder': WHATEVER THE INPUT: true; the input reads as it did. -/
def fnExactSwapOrderSpec : ChangeSpec := { name := "fnExactSwapOrder", fn := fun _ => fun
  | [d1, d2, d3] => { results := [.lit (.bool true)], args := [d1, d2, d3] }
  | _ => none }
def fnExactSwapOrderRow : OpenClaim := { program := "ytcjlkdojobdlcaa", sum := "a8787e54c6b73efe72e419fefea486f6ddac13f4432e6d10715dc7c115f1bb48", func := "loop.example/g03309/laws.FnExactSwapOrder", spec := "fnExactSwapOrder", apart := false }
def FnExactSwapOrderSaid : Prop := fnExactSwapOrderRow.holds Try.pinned (OpenSpec.ofChange fnExactSwapOrderSpec)

/-- ITS FALSE NEIGHBOUR: 'it returns false'. Refute it at one input. -/
def fnExactSwapOrderWrong : ChangeSpec := { name := "fnExactSwapOrder", fn := fun _ => fun
  | [d1, d2, d3] => { results := [.lit (.bool false)], args := [d1, d2, d3] }
  | _ => none }
def FnExactSwapOrderWrongFalsely : Prop := fnExactSwapOrderRow.holds Try.pinned (OpenSpec.ofChange fnExactSwapOrderWrong)

/-- 'laws.FnExactWearOk': WHATEVER THE INPUT: true; the input reads as it did. -/
def fnExactWearOkSpec : ChangeSpec := { name := "fnExactWearOk", fn := fun _ => fun
  | [d] => { results := [.lit (.bool true)], args := [d] }
  | _ => none }
def fnExactWearOkRow : OpenClaim := { program := "ytcjlkdojobdlcaa", sum := "a8787e54c6b73efe72e419fefea486f6ddac13f4432e6d10715dc7c115f1bb48", func := "loop.example/g03309/laws.FnExactWearOk", spec := "fnExactWearOk", apart := false }
def FnExactWearOkSaid : Prop := fnExactWearOkRow.holds Try.pinned (OpenSpec.ofChange fnExactWearOkSpec)

/-- ITS FALSE NEIGHBOUR: 'it returns false'. Refute it at one input. -/
def fnExactWearOkWrong : ChangeSpec := { name := "fnExactWearOk", fn := fun _ => fun
  | [d] => { results := [.lit (.bool false)], args := [d] }
  | _ => none }
def FnExactWearOkWrongFalsely : Prop := fnExactWearOkRow.holds Try.pinned (OpenSpec.ofChange fnExactWearOkWrong)

/-- 'laws.FnExactLeastPeriod': WHATEVER THE INPUT: true; the input reads as it did. -/
def fnExactLeastPeriodSpec : ChangeSpec := { name := "fnExactLeastPeriod", fn := fun _ => fun
  | [d1, d2] => { results := [.lit (.bool true)], args := [d1, d2] }
  | _ => none }
def fnExactLeastPeriodRow : OpenClaim := { program := "ytcjlkdojobdlcaa", sum := "a8787e54c6b73efe72e419fefea486f6ddac13f4432e6d10715dc7c115f1bb48", func := "loop.example/g03309/laws.FnExactLeastPeriod", spec := "fnExactLeastPeriod", apart := false }
def FnExactLeastPeriodSaid : Prop := fnExactLeastPeriodRow.holds Try.pinned (OpenSpec.ofChange fnExactLeastPeriodSpec)

/-- ITS FALSE NEIGHBOUR: 'it returns false'. Refute it at one input. -/
def fnExactLeastPeriodWrong : ChangeSpec := { name := "fnExactLeastPeriod", fn := fun _ => fun
  | [d1, d2] => { results := [.lit (.bool false)], args := [d1, d2] }
  | _ => none }
def FnExactLeastPeriodWrongFalsely : Prop := fnExactLeastPeriodRow.holds Try.pinned (OpenSpec.ofChange fnExactLeastPeriodWrong)

/-- 'laws.FnExactSameRhythm': WHATEVER THE INPUT: true; the input reads as it did. -/
def fnExactSameRhythmSpec : ChangeSpec := { name := "fnExactSameRhythm", fn := fun _ => fun
  | [d1, d2, d3] => { results := [.lit (.bool true)], args := [d1, d2, d3] }
  | _ => none }
def fnExactSameRhythmRow : OpenClaim := { program := "ytcjlkdojobdlcaa", sum := "a8787e54c6b73efe72e419fefea486f6ddac13f4432e6d10715dc7c115f1bb48", func := "loop.example/g03309/laws.FnExactSameRhythm", spec := "fnExactSameRhythm", apart := false }
def FnExactSameRhythmSaid : Prop := fnExactSameRhythmRow.holds Try.pinned (OpenSpec.ofChange fnExactSameRhythmSpec)

/-- ITS FALSE NEIGHBOUR: 'it returns false'. Refute it at one input. -/
def fnExactSameRhythmWrong : ChangeSpec := { name := "fnExactSameRhythm", fn := fun _ => fun
  | [d1, d2, d3] => { results := [.lit (.bool false)], args := [d1, d2, d3] }
  | _ => none }
def FnExactSameRhythmWrongFalsely : Prop := fnExactSameRhythmRow.holds Try.pinned (OpenSpec.ofChange fnExactSameRhythmWrong)

/-- 'laws.FnExactSilent': WHATEVER THE INPUT: true; the input reads as it did. -/
def fnExactSilentSpec : ChangeSpec := { name := "fnExactSilent", fn := fun _ => fun
  | [d1, d2] => { results := [.lit (.bool true)], args := [d1, d2] }
  | _ => none }
def fnExactSilentRow : OpenClaim := { program := "ytcjlkdojobdlcaa", sum := "a8787e54c6b73efe72e419fefea486f6ddac13f4432e6d10715dc7c115f1bb48", func := "loop.example/g03309/laws.FnExactSilent", spec := "fnExactSilent", apart := false }
def FnExactSilentSaid : Prop := fnExactSilentRow.holds Try.pinned (OpenSpec.ofChange fnExactSilentSpec)

/-- ITS FALSE NEIGHBOUR: 'it returns false'. Refute it at one input. -/
def fnExactSilentWrong : ChangeSpec := { name := "fnExactSilent", fn := fun _ => fun
  | [d1, d2] => { results := [.lit (.bool false)], args := [d1, d2] }
  | _ => none }
def FnExactSilentWrongFalsely : Prop := fnExactSilentRow.holds Try.pinned (OpenSpec.ofChange fnExactSilentWrong)

/-- 'laws.FnExactAfterTurns': WHATEVER THE INPUT: true; the input reads as it did. -/
def fnExactAfterTurnsSpec : ChangeSpec := { name := "fnExactAfterTurns", fn := fun _ => fun
  | [d1, d2] => { results := [.lit (.bool true)], args := [d1, d2] }
  | _ => none }
def fnExactAfterTurnsRow : OpenClaim := { program := "ytcjlkdojobdlcaa", sum := "a8787e54c6b73efe72e419fefea486f6ddac13f4432e6d10715dc7c115f1bb48", func := "loop.example/g03309/laws.FnExactAfterTurns", spec := "fnExactAfterTurns", apart := false }
def FnExactAfterTurnsSaid : Prop := fnExactAfterTurnsRow.holds Try.pinned (OpenSpec.ofChange fnExactAfterTurnsSpec)

/-- ITS FALSE NEIGHBOUR: 'it returns false'. Refute it at one input. -/
def fnExactAfterTurnsWrong : ChangeSpec := { name := "fnExactAfterTurns", fn := fun _ => fun
  | [d1, d2] => { results := [.lit (.bool false)], args := [d1, d2] }
  | _ => none }
def FnExactAfterTurnsWrongFalsely : Prop := fnExactAfterTurnsRow.holds Try.pinned (OpenSpec.ofChange fnExactAfterTurnsWrong)

/-- 'laws.FnExactCountUps': WHATEVER THE INPUT: true; the input reads as it did. -/
def fnExactCountUpsSpec : ChangeSpec := { name := "fnExactCountUps", fn := fun _ => fun
  | [d] => { results := [.lit (.bool true)], args := [d] }
  | _ => none }
def fnExactCountUpsRow : OpenClaim := { program := "ytcjlkdojobdlcaa", sum := "a8787e54c6b73efe72e419fefea486f6ddac13f4432e6d10715dc7c115f1bb48", func := "loop.example/g03309/laws.FnExactCountUps", spec := "fnExactCountUps", inPlace := ["internal/bytealg.CountString", "internal/bytealg.IndexByteString", "internal/bytealg.IndexString"], named := ["internal/bytealg.MaxLen"], apart := false }
def FnExactCountUpsSaid : Prop := fnExactCountUpsRow.holds Try.pinned (OpenSpec.ofChange fnExactCountUpsSpec)

/-- ITS FALSE NEIGHBOUR: 'it returns false'. Refute it at one input. -/
def fnExactCountUpsWrong : ChangeSpec := { name := "fnExactCountUps", fn := fun _ => fun
  | [d] => { results := [.lit (.bool false)], args := [d] }
  | _ => none }
def FnExactCountUpsWrongFalsely : Prop := fnExactCountUpsRow.holds Try.pinned (OpenSpec.ofChange fnExactCountUpsWrong)

/- THE SECOND FORM. 'bulk': how many values and letters a reading holds, each counted each time it is reached (what is shared counts as often as it is met; a slice's spare places count too). A statement '..UptoSaid' is the law's where the arguments, and the package variables that the reading takes, are together of bulk at most 1048576: NARROWER than '..Said'. Prove '..Said' where nothing that the law and all that it calls make is longer than what came in: it says more and counts as full. Else prove '..UptoSaid'. A law counts once. -/
mutual
def uptoBulk {H : Type} : DataW H → Nat
  | .lit (.string bytes) => bytes.length + 1
  | .lit _ => 1
  | .nil => 1
  | .ptr d => uptoBulk d + 1
  | .slice elems spare => uptoBulkAll elems + uptoBulkAll spare + 1
  | .agg parts => uptoBulkAll parts + 1
  | .iface _ d => uptoBulk d + 1
  | .map entries => uptoBulkEntries entries + 1
  | .held _ => 1
def uptoBulkAll {H : Type} : List (DataW H) → Nat
  | [] => 0
  | d :: r => uptoBulk d + uptoBulkAll r
def uptoBulkEntries {H : Type} : List (Lit × DataW H) → Nat
  | [] => 0
  | x :: r => uptoBulkEntry x + uptoBulkEntries r
def uptoBulkEntry {H : Type} : Lit × DataW H → Nat
  | (.string bytes, d) => bytes.length + uptoBulk d + 1
  | (_, d) => uptoBulk d + 1
 end
def uptoSmall : (H : Type) → List (DataW H) → Bool := fun _ ds => decide (uptoBulkAll ds ≤ 1048576)
def OpenSpec.upto (s : _root_.Go.ChangeSpec) : _root_.Go.OpenSpec := { _root_.Go.OpenSpec.ofChange s with cond := some uptoSmall }

/-- 'laws.FnExactCountSymmetries', WHERE WHAT IT READS IS OF BULK AT MOST 1048576: true; the input reads as it did. -/
def fnExactCountSymmetriesUptoRow : OpenClaim := { program := "ytcjlkdojobdlcaa", sum := "a8787e54c6b73efe72e419fefea486f6ddac13f4432e6d10715dc7c115f1bb48", func := "loop.example/g03309/laws.FnExactCountSymmetries", spec := "fnExactCountSymmetries", apart := false, narrowed := true }
def FnExactCountSymmetriesUptoSaid : Prop := fnExactCountSymmetriesUptoRow.holds Try.pinned (OpenSpec.upto fnExactCountSymmetriesSpec)

/-- 'laws.FnExactSwapOrder', WHERE WHAT IT READS IS OF BULK AT MOST 1048576: true; the input reads as it did. -/
def fnExactSwapOrderUptoRow : OpenClaim := { program := "ytcjlkdojobdlcaa", sum := "a8787e54c6b73efe72e419fefea486f6ddac13f4432e6d10715dc7c115f1bb48", func := "loop.example/g03309/laws.FnExactSwapOrder", spec := "fnExactSwapOrder", apart := false, narrowed := true }
def FnExactSwapOrderUptoSaid : Prop := fnExactSwapOrderUptoRow.holds Try.pinned (OpenSpec.upto fnExactSwapOrderSpec)

/-- 'laws.FnExactWearOk', WHERE WHAT IT READS IS OF BULK AT MOST 1048576: true; the input reads as it did. -/
def fnExactWearOkUptoRow : OpenClaim := { program := "ytcjlkdojobdlcaa", sum := "a8787e54c6b73efe72e419fefea486f6ddac13f4432e6d10715dc7c115f1bb48", func := "loop.example/g03309/laws.FnExactWearOk", spec := "fnExactWearOk", apart := false, narrowed := true }
def FnExactWearOkUptoSaid : Prop := fnExactWearOkUptoRow.holds Try.pinned (OpenSpec.upto fnExactWearOkSpec)

/-- 'laws.FnExactLeastPeriod', WHERE WHAT IT READS IS OF BULK AT MOST 1048576: true; the input reads as it did. -/
def fnExactLeastPeriodUptoRow : OpenClaim := { program := "ytcjlkdojobdlcaa", sum := "a8787e54c6b73efe72e419fefea486f6ddac13f4432e6d10715dc7c115f1bb48", func := "loop.example/g03309/laws.FnExactLeastPeriod", spec := "fnExactLeastPeriod", apart := false, narrowed := true }
def FnExactLeastPeriodUptoSaid : Prop := fnExactLeastPeriodUptoRow.holds Try.pinned (OpenSpec.upto fnExactLeastPeriodSpec)

/-- 'laws.FnExactSameRhythm', WHERE WHAT IT READS IS OF BULK AT MOST 1048576: true; the input reads as it did. -/
def fnExactSameRhythmUptoRow : OpenClaim := { program := "ytcjlkdojobdlcaa", sum := "a8787e54c6b73efe72e419fefea486f6ddac13f4432e6d10715dc7c115f1bb48", func := "loop.example/g03309/laws.FnExactSameRhythm", spec := "fnExactSameRhythm", apart := false, narrowed := true }
def FnExactSameRhythmUptoSaid : Prop := fnExactSameRhythmUptoRow.holds Try.pinned (OpenSpec.upto fnExactSameRhythmSpec)

/-- 'laws.FnExactSilent', WHERE WHAT IT READS IS OF BULK AT MOST 1048576: true; the input reads as it did. -/
def fnExactSilentUptoRow : OpenClaim := { program := "ytcjlkdojobdlcaa", sum := "a8787e54c6b73efe72e419fefea486f6ddac13f4432e6d10715dc7c115f1bb48", func := "loop.example/g03309/laws.FnExactSilent", spec := "fnExactSilent", apart := false, narrowed := true }
def FnExactSilentUptoSaid : Prop := fnExactSilentUptoRow.holds Try.pinned (OpenSpec.upto fnExactSilentSpec)

/-- 'laws.FnExactAfterTurns', WHERE WHAT IT READS IS OF BULK AT MOST 1048576: true; the input reads as it did. -/
def fnExactAfterTurnsUptoRow : OpenClaim := { program := "ytcjlkdojobdlcaa", sum := "a8787e54c6b73efe72e419fefea486f6ddac13f4432e6d10715dc7c115f1bb48", func := "loop.example/g03309/laws.FnExactAfterTurns", spec := "fnExactAfterTurns", apart := false, narrowed := true }
def FnExactAfterTurnsUptoSaid : Prop := fnExactAfterTurnsUptoRow.holds Try.pinned (OpenSpec.upto fnExactAfterTurnsSpec)

/-- 'laws.FnExactCountUps', WHERE WHAT IT READS IS OF BULK AT MOST 1048576: true; the input reads as it did. -/
def fnExactCountUpsUptoRow : OpenClaim := { program := "ytcjlkdojobdlcaa", sum := "a8787e54c6b73efe72e419fefea486f6ddac13f4432e6d10715dc7c115f1bb48", func := "loop.example/g03309/laws.FnExactCountUps", spec := "fnExactCountUps", inPlace := ["internal/bytealg.CountString", "internal/bytealg.IndexByteString", "internal/bytealg.IndexString"], named := ["internal/bytealg.MaxLen"], apart := false, narrowed := true }
def FnExactCountUpsUptoSaid : Prop := fnExactCountUpsUptoRow.holds Try.pinned (OpenSpec.upto fnExactCountUpsSpec)

end Rows
end Go.Proofs.Ytcjlkdojobdlcaa
