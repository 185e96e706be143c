/- The program's and the reference's MoveCost return the same for all pins and steps. -/
import Derived.Test.YtkbceojeahninaaGap
import Derived.Deep.RegionHeld3
namespace Go.Proofs.Ytkbceojeahninaa
open Go.ChangeShapes Go.WideShapes Go.ChangeAt Go.RowKit
set_option linter.unusedVariables false
def moveOk (g x1 x2 : Int) : Prop := 0 ≤ g ∧ 0 ≤ x1 ∧ x1 ≤ 99 ∧ 0 ≤ x2 ∧ x2 ≤ 99
instance (g x1 x2 : Int) : Decidable (moveOk g x1 x2) := by unfold moveOk; infer_instance
def moveG (g x1 x2 : Int) : Int := if moveOk g x1 x2 then g + max (x1 - x2) (x2 - x1) else -1
def moveZ (x1 y1 x2 y2 s : Int) : Int := moveG (gapZ y1 y2 s) x1 x2
theorem impl_Move (x1 y1 x2 y2 s : Int) (w : World) :
    Calls Try.prog 42 #[.agg #[.int .i64 x1, .int .i64 y1], .agg #[.int .i64 x2, .int .i64 y2], .int .i64 s] w fun e w' => e = .returned (.int .i64 (moveZ x1 y1 x2 y2 s)) ∧ Below w.heap.size w w' := by
  have hg := gapZ_bd y1 y2 s
  unfold moveZ
  generalize hG : gapZ y1 y2 s = g at hg
  have HG := Lib.hid hG
  clear hG
  obtain ⟨hg1, hg2⟩ := hg
  by_cases hno : moveOk g x1 x2
  · have HV : Hid (moveG g x1 x2 = g + max (x1 - x2) (x2 - x1)) := if_pos hno
    obtain ⟨h1, h2, h3, h4, h5⟩ := hno
    go_enter Try.func42, Try.ntmps42
    go_wp2_with (first | (go_at_call 81; refine (impl_Gap _ _ _ _).mono ?_; rintro e w1 ⟨rfl, rfl⟩; rw [HG.out]) | go_in)
    all_goals (go_ret; refine ⟨ret_int ?_, ?_⟩)
    all_goals first | (rw [HV.out]; omega) | ((repeat (refine Below.alloc ?_ (by first | omega | (simp; done) | (simp; omega)) _)); exact Below.refl _ _)
  · have HV : Hid (moveG g x1 x2 = -1) := if_neg hno
    unfold moveOk at hno
    go_enter Try.func42, Try.ntmps42
    go_wp2_with (first | (go_at_call 81; refine (impl_Gap _ _ _ _).mono ?_; rintro e w1 ⟨rfl, rfl⟩; rw [HG.out]) | go_in)
    all_goals first | (exfalso; simp only [Bool.not_eq_true', Bool.not_eq_false', decide_eq_true_eq, decide_eq_false_iff_not] at *; omega) | (go_ret; refine ⟨ret_int HV.out.symm, ?_⟩; (repeat (refine Below.alloc ?_ (by first | omega | (simp; done) | (simp; omega)) _)); exact Below.refl _ _)
end Go.Proofs.Ytkbceojeahninaa
