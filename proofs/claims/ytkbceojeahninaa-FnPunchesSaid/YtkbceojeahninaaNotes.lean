/- What the laws ask of slices of notes: copies, equal lists, marks. -/
import Derived.Test.YtkbceojeahninaaBase
import Derived.Test.YtkbceojeahninaaRows
import Derived.Deep.QuietTactic
import Derived.BigQuiet
import Derived.Deep.RegionHeld3
import Derived.Outline
namespace Go.Proofs.Ytkbceojeahninaa
open Go.ChangeShapes Go.WideShapes Go.ChangeAt Go.RowKit
set_option linter.unusedVariables false
theorem rdn_alloc {w : World} {A : Option Addr} {l : List (Int × Int)} (h : RdN w A l) (o : Obj) : RdN (w.alloc o) A l := h.below ((Below.refl _ _).alloc (Nat.le_refl _) o) rfl
/-- Marked: the times and pitches are k, k + 1 and so on. -/
def MarkedN (k : Int) (n : Nat) (L : List (Int × Int)) : Prop := ∀ i, i < n → tm L i = k + 2 * (i : Int) ∧ pt L i = k + 2 * (i : Int) + 1
theorem MarkedN.set_ {k0 : Int} {k : Nat} {L : List (Int × Int)} (h : MarkedN k0 k L) (hk : k < L.length) : MarkedN k0 (k + 1) (L.set k (k0 + 2 * (k : Int), k0 + 2 * (k : Int) + 1)) := by
  intro i hi
  rw [tm_set _ _ _ _ hk, pt_set _ _ _ _ hk]
  by_cases he : i = k
  · rw [if_pos he, if_pos he, he]; exact ⟨rfl, rfl⟩
  · rw [if_neg he, if_neg he]; exact h i (by omega)
end Go.Proofs.Ytkbceojeahninaa
