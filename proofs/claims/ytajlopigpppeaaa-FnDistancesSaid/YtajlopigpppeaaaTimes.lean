/- The times of a tune, each once; their gaps; the longest silence. -/
import Derived.Test.YtajlopigpppeaaaBase
import Derived.Test.YtajlopigpppeaaaTune
import Derived.Test.YtajlopigpppeaaaRows
import Derived.Deep.QuietTactic
import Derived.BigQuiet
import Derived.Outline
namespace Go.Proofs.Ytajlopigpppeaaa
open Go.ChangeShapes Go.WideShapes Go.ChangeAt Go.RowKit
set_option linter.unusedVariables false
def onZ (l : List (Int × Int)) : Nat → List Int
  | 0 => []
  | k + 1 => if k = 0 ∨ tm l (k - 1) ≠ tm l k then onZ l k ++ [tm l k] else onZ l k
theorem onZ_len (l : List (Int × Int)) : ∀ k, (onZ l k).length ≤ k
  | 0 => by simp [onZ]
  | k + 1 => by have := onZ_len l k; unfold onZ; split <;> simp <;> omega
theorem gt_last (l : List Int) (x : Int) : gt (l ++ [x]) l.length = x := by simp [gt]
theorem onZ_last (l : List (Int × Int)) : ∀ k, ∃ n, (onZ l (k + 1)).length = n + 1 ∧ gt (onZ l (k + 1)) n = tm l k
  | 0 => ⟨0, by simp [onZ], by simp [onZ, gt]⟩
  | k + 1 => by
    obtain ⟨n, h1, h2⟩ := onZ_last l k
    unfold onZ
    by_cases h : k + 1 = 0 ∨ tm l (k + 1 - 1) ≠ tm l (k + 1)
    · rw [if_pos h]
      exact ⟨(onZ l (k + 1)).length, by simp, gt_last _ _⟩
    · rw [if_neg h]
      refine ⟨n, h1, h2.trans ?_⟩
      by_cases e : tm l k = tm l (k + 1)
      · exact e
      · exact absurd (Or.inr (by simpa using e)) h
theorem onZ_yes {l : List (Int × Int)} {k : Nat} (h : k = 0 ∨ tm l (k - 1) ≠ tm l k) : onZ l (k + 1) = onZ l k ++ [tm l k] := by
  show (if _ then _ else _) = _; rw [if_pos h]
theorem onZ_no {l : List (Int × Int)} {k : Nat} (h : ¬ (k = 0 ∨ tm l (k - 1) ≠ tm l k)) : onZ l (k + 1) = onZ l k := by
  show (if _ then _ else _) = _; rw [if_neg h]
noncomputable def onB (l : List (Int × Int)) : List Int := if tuneB l then onZ l l.length else []
theorem onB_yes {l : List (Int × Int)} (h : tuneB l = true) : onB l = onZ l l.length := by unfold onB; rw [h]; rfl
theorem onB_no {l : List (Int × Int)} (h : tuneB l = false) : onB l = [] := by unfold onB; rw [h]; rfl
theorem onB_len (l : List (Int × Int)) : (onB l).length ≤ l.length := by
  unfold onB; split
  · exact onZ_len l _
  · simp
end Go.Proofs.Ytajlopigpppeaaa
