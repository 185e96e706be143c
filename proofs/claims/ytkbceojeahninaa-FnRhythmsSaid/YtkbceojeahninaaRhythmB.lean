/- The reference's l20Moved: the same as the program's movedAround, on lists in range. -/
import Derived.Test.YtkbceojeahninaaRhythm
namespace Go.Proofs.Ytkbceojeahninaa
open Go.ChangeShapes Go.WideShapes Go.ChangeAt Go.RowKit
set_option linter.unusedVariables false
/-- What is marked after k elements. -/
def onTo (b : List Int) (k t : Nat) : Bool := decide (∃ i, i < k ∧ gt b i = (t : Int))
theorem onTo_succ (b : List Int) (k t x : Nat) (hx : gt b k = (x : Int)) : onTo b (k + 1) t = if t = x then true else onTo b k t := by
  unfold onTo
  by_cases h : t = x
  · rw [if_pos h]
    exact decide_eq_true ⟨k, by omega, by rw [hx, h]⟩
  · rw [if_neg h]
    rw [decide_eq_decide]
    constructor
    · rintro ⟨i, hi, he⟩
      by_cases e : i = k
      · subst e; omega
      · exact ⟨i, by omega, he⟩
    · rintro ⟨i, hi, he⟩
      exact ⟨i, by omega, he⟩
end Go.Proofs.Ytkbceojeahninaa
