/- The program's and the reference's GapAround return the same for all numbers. -/
import Derived.Test.YtkbceojeahninaaBase
import Derived.Test.YtkbceojeahninaaRows
namespace Go.Proofs.Ytkbceojeahninaa
open Go.ChangeShapes Go.WideShapes Go.ChangeAt Go.RowKit
set_option linter.unusedVariables false
def gapOk (a b s : Int) : Prop := 1 ≤ s ∧ s ≤ 1000 ∧ 0 ≤ a ∧ a ≤ s - 1 ∧ 0 ≤ b ∧ b ≤ s - 1
instance (a b s : Int) : Decidable (gapOk a b s) := by unfold gapOk; infer_instance
def gapZ (a b s : Int) : Int := if gapOk a b s then min (max (a - b) (b - a)) (s - max (a - b) (b - a)) else -1
theorem gapZ_bd (a b s : Int) : -1 ≤ gapZ a b s ∧ gapZ a b s ≤ 1000 := by
  by_cases h : gapOk a b s
  · rw [show gapZ a b s = min (max (a - b) (b - a)) (s - max (a - b) (b - a)) from if_pos h]
    unfold gapOk at h
    omega
  · rw [show gapZ a b s = -1 from if_neg h]
    omega
theorem impl_Gap (a b s : Int) (w : World) : Calls Try.prog 81 #[.int .i64 a, .int .i64 b, .int .i64 s] w fun e w' => e = .returned (.int .i64 (gapZ a b s)) ∧ w = w' := by
  by_cases hno : gapOk a b s
  · have hok := hno
    obtain ⟨h1, h2, h3, h4, h5, h6⟩ := hno
    have HV : Hid (gapZ a b s = min (max (a - b) (b - a)) (s - max (a - b) (b - a))) := if_pos hok
    clear hok
    go_enter Try.func81, Try.ntmps81
    go_wp2
    all_goals (go_ret; refine ⟨ret_int ?_, rfl⟩; rw [HV.out])
    all_goals omega
  · have HV : Hid (gapZ a b s = -1) := if_neg hno
    unfold gapOk at hno
    go_enter Try.func81, Try.ntmps81
    go_wp2
    all_goals first | (exfalso; simp only [Bool.not_eq_true', Bool.not_eq_false', decide_eq_true_eq, decide_eq_false_iff_not] at *; omega) | (go_ret; exact ⟨ret_int HV.out.symm, rfl⟩)
end Go.Proofs.Ytkbceojeahninaa
