/- A part of a tune. -/
import Derived.Test.YtkbceojeahninaaBase
import Derived.Test.YtkbceojeahninaaIn
import Derived.Test.YtkbceojeahninaaTune
import Derived.Test.YtkbceojeahninaaRows
import Derived.Outline
namespace Go.Proofs.Ytkbceojeahninaa
open Go.ChangeShapes Go.WideShapes Go.ChangeAt Go.RowKit
set_option linter.unusedVariables false
def subL (l : List (Int × Int)) (f n : Nat) : List (Int × Int) := (l.drop f).take n
theorem subL_len {l : List (Int × Int)} {f n : Nat} (h : f + n ≤ l.length) : (subL l f n).length = n := by unfold subL; simp; omega
theorem subL_get {l : List (Int × Int)} {f n j : Nat} (h : j < n) : (subL l f n).getD j (0, 0) = l.getD (f + j) (0, 0) := by
  unfold subL
  simp [List.getD, h]
theorem subL_map {w : World} {A : Option Addr} {l : List (Int × Int)} {f n : Nat} (h : f + n ≤ l.length) (hrd : RdN w A l) : RdN w (Option.map (fun x => x.add (f * 2)) A) (subL l f n) := by
  intro hp
  rw [subL_len h] at hp
  obtain ⟨b, off, rfl, hb, hc⟩ := hrd (by omega)
  have hadd : (⟨b, off, none⟩ : Addr).add (f * 2) = ⟨b, off + f * 2, none⟩ := by
    unfold Addr.add
    split
    · rename_i h; rw [h]; rfl
    · rfl
  refine ⟨b, off + f * 2, congrArg some hadd, hb, fun j hj => ?_⟩
  rw [subL_len h] at hj
  have hx := hc (f + j) (by omega)
  unfold tm pt at hx ⊢
  rw [subL_get hj, show off + f * 2 + j * 2 = off + (f + j) * 2 by omega]
  exact hx
theorem subL_none {w : World} {A : Option Addr} {l : List (Int × Int)} {f : Nat} : RdN w A (subL l f 0) := fun h => by simp [subL] at h
def parP (l : List (Int × Int)) (f n : Int) : Prop := (0 ≤ f ∧ f ≤ (l.length : Int)) ∧ (0 ≤ n ∧ n ≤ (l.length : Int) - f)
noncomputable instance parDec (l : List (Int × Int)) (f n : Int) : Decidable (tuneB l = true ∧ parP l f n) := Classical.propDecidable _
noncomputable def parB (l : List (Int × Int)) (f n : Int) : Bool := decide (tuneB l = true ∧ parP l f n)
noncomputable def parZ (l : List (Int × Int)) (f n : Int) : List (Int × Int) := if tuneB l = true ∧ parP l f n then subL l f.toNat n.toNat else []
theorem parZ_len (l : List (Int × Int)) (f n : Int) : (parZ l f n).length ≤ l.length := by
  unfold parZ subL; split <;> simp <;> omega
end Go.Proofs.Ytkbceojeahninaa
