/- The gaps between the times of a tune, and the longest silence. -/
import Derived.Test.YthgeijgojdmidaaBase
import Derived.Test.YthgeijgojdmidaaApp
import Derived.Test.YthgeijgojdmidaaTimes
import Derived.Test.YthgeijgojdmidaaRows
import Derived.Deep.RegionHeld3
import Derived.WalkSpells
import Derived.Outline
namespace Go.Proofs.Ythgeijgojdmidaa
open Go.ChangeShapes Go.WideShapes Go.ChangeAt Go.RowKit
set_option linter.unusedVariables false
def gpZ (o : List Int) : Nat → List Int
  | 0 => []
  | k + 1 => gpZ o k ++ [gt o (k + 1) - gt o k]
theorem gpZ_len (o : List Int) : ∀ k, (gpZ o k).length = k
  | 0 => rfl
  | k + 1 => by unfold gpZ; simp [gpZ_len o k]
theorem gpZ_next {o : List Int} {K m : Nat} (h : K = m + 1) : gpZ o (K + 1 - 1) = gpZ o (K - 1) ++ [gt o K - gt o m] := by
  subst h; rfl
noncomputable def gpB (l : List (Int × Int)) : List Int := gpZ (onB l) ((onB l).length - 1)
theorem gpB_len (l : List (Int × Int)) : (gpB l).length ≤ l.length := by
  unfold gpB; rw [gpZ_len]; have := onB_len l; omega
theorem gt_mem {l : List Int} {i : Nat} (h : i < l.length) : gt l i ∈ l := by
  unfold gt; rw [List.getD_eq_getElem?_getD, List.getElem?_eq_getElem h]; exact List.getElem_mem h
theorem onZ_mem {l : List (Int × Int)} {n : Nat} (ht : tuneTo l n) : ∀ k, k ≤ n → ∀ x ∈ onZ l k, 0 ≤ x ∧ x ≤ 1000
  | 0, _, x, h => by simp [onZ] at h
  | k + 1, hk, x, h => by
    unfold onZ at h
    have hr := (ht k (by omega)).1
    split at h
    · rw [List.mem_append] at h
      rcases h with h | h
      · exact onZ_mem ht k (by omega) x h
      · simp at h; subst h; exact hr
    · exact onZ_mem ht k (by omega) x h
theorem onB_rng (l : List (Int × Int)) {i : Nat} (hi : i < (onB l).length) : 0 ≤ gt (onB l) i ∧ gt (onB l) i ≤ 1000 := by
  have hm := gt_mem hi
  revert hm
  generalize gt (onB l) i = x
  intro hm
  unfold onB at hm
  split at hm
  · rename_i h
    exact onZ_mem (of_decide_eq_true h).1 _ (Nat.le_refl _) x hm
  · simp at hm
def maxTo (g : List Int) : Nat → Int
  | 0 => 0
  | k + 1 => max (maxTo g k) (gt g k)
noncomputable def lsB (l : List (Int × Int)) : Int := if tuneB l then maxTo (gpB l) (gpB l).length else -1
theorem lsB_yes {l : List (Int × Int)} (h : tuneB l = true) : lsB l = maxTo (gpB l) (gpB l).length := by unfold lsB; rw [h]; rfl
theorem lsB_no {l : List (Int × Int)} (h : tuneB l = false) : lsB l = -1 := by unfold lsB; rw [h]; rfl
end Go.Proofs.Ythgeijgojdmidaa
