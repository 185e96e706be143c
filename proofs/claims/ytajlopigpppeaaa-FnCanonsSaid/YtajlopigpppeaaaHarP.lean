/- The harsh pairs of a tune: plain part. -/
import Derived.Test.YtajlopigpppeaaaSweet
import Derived.Test.YtajlopigpppeaaaSounding
namespace Go.Proofs.Ytajlopigpppeaaa
open Go.ChangeShapes Go.WideShapes Go.ChangeAt Go.RowKit
set_option linter.unusedVariables false
def hpP (l : List (Int × Int)) (i j : Nat) : Prop := tm l i = tm l j ∧ swt (pt l i) (pt l j) = false
instance (l : List (Int × Int)) (i j : Nat) : Decidable (hpP l i j) := inferInstanceAs (Decidable (_ ∧ _))
def hpJ (l : List (Int × Int)) (i : Nat) (n : Int) : Nat → Int
  | 0 => n
  | j + 1 => if hpP l i j then hpJ l i n j + 1 else hpJ l i n j
def hpN (l : List (Int × Int)) : Nat → Int
  | 0 => 0
  | i + 1 => hpJ l i (hpN l i) i
theorem hpJ_yes {l : List (Int × Int)} {i j : Nat} {n : Int} (h : hpP l i j) : hpJ l i n (j + 1) = hpJ l i n j + 1 := if_pos h
theorem hpJ_no {l : List (Int × Int)} {i j : Nat} {n : Int} (h : ¬ hpP l i j) : hpJ l i n (j + 1) = hpJ l i n j := if_neg h
theorem hpJ_bd (l : List (Int × Int)) (i : Nat) (n : Int) : ∀ j : Nat, n ≤ hpJ l i n j ∧ hpJ l i n j ≤ n + (j : Int)
  | 0 => by simp [hpJ]
  | j + 1 => by have := hpJ_bd l i n j; unfold hpJ; split <;> omega
theorem hpN_bd (l : List (Int × Int)) : ∀ i : Nat, i ≤ 40 → 0 ≤ hpN l i ∧ hpN l i ≤ 40 * (i : Int)
  | 0, _ => by simp [hpN]
  | i + 1, h => by have h1 := hpN_bd l i (by omega); have h2 := hpJ_bd l i (hpN l i) i; unfold hpN; omega
noncomputable def hpZ (l : List (Int × Int)) : Int := if tuneB l = true then hpN l l.length else -1
theorem hpZ_yes {l : List (Int × Int)} (h : tuneB l = true) : hpZ l = hpN l l.length := if_pos h
theorem hpZ_no {l : List (Int × Int)} (h : tuneB l = false) : hpZ l = -1 := by unfold hpZ; rw [h]; rfl
theorem tune_len6 {l : List (Int × Int)} (h : tuneB l = true) : l.length ≤ 40 := (of_decide_eq_true h : tuneP l).2
theorem hpZ_bd (l : List (Int × Int)) : -1 ≤ hpZ l ∧ hpZ l ≤ 1600 := by
  cases h : tuneB l
  · rw [hpZ_no h]; omega
  · have h1 := tune_len6 h
    have := hpN_bd l l.length h1
    rw [hpZ_yes h]; omega
end Go.Proofs.Ytajlopigpppeaaa
