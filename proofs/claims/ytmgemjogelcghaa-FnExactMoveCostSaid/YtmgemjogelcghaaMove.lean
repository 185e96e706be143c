/- The program's and the reference's MoveCost return the same for all pins and steps. -/
import Derived.Test.YtmgemjogelcghaaGap
import Derived.Deep.RegionHeld3
namespace Go.Proofs.Ytmgemjogelcghaa
open Go.ChangeShapes Go.WideShapes Go.ChangeAt Go.RowKit
set_option linter.unusedVariables false
def moveOk (g x1 x2 : Int) : Prop := 0 ≤ g ∧ 0 ≤ x1 ∧ x1 ≤ 99 ∧ 0 ≤ x2 ∧ x2 ≤ 99
instance (g x1 x2 : Int) : Decidable (moveOk g x1 x2) := by unfold moveOk; infer_instance
def moveG (g x1 x2 : Int) : Int := if moveOk g x1 x2 then g + max (x1 - x2) (x2 - x1) else -1
def moveZ (x1 y1 x2 y2 s : Int) : Int := moveG (gapZ y1 y2 s) x1 x2
theorem spec_Move (x1 y1 x2 y2 s : Int) (w : World) :
    Calls Try.prog 15 #[.agg #[.int .i64 x1, .int .i64 y1], .agg #[.int .i64 x2, .int .i64 y2], .int .i64 s] w fun e w' => e = .returned (.int .i64 (moveZ x1 y1 x2 y2 s)) ∧ Below w.heap.size w w' := by
  have hg := gapZ_bd y1 y2 s
  unfold moveZ
  generalize hG : gapZ y1 y2 s = g at hg
  have HG := Lib.hid hG
  clear hG
  obtain ⟨hg1, hg2⟩ := hg
  by_cases hno : moveOk g x1 x2
  · have HV : Hid (moveG g x1 x2 = g + max (x1 - x2) (x2 - x1)) := if_pos hno
    obtain ⟨h1, h2, h3, h4, h5⟩ := hno
    go_enter Try.func15, Try.ntmps15
    go_wp2_with (first | (go_at_call 29; refine (spec_Gap _ _ _ _).mono ?_; rintro e w1 ⟨rfl, rfl⟩; rw [HG.out]) | go_in)
    all_goals (go_ret; refine ⟨ret_int ?_, ?_⟩)
    all_goals first | (rw [HV.out]; omega) | ((repeat (refine Below.alloc ?_ (by first | omega | (simp; done) | (simp; omega)) _)); exact Below.refl _ _)
  · have HV : Hid (moveG g x1 x2 = -1) := if_neg hno
    unfold moveOk at hno
    go_enter Try.func15, Try.ntmps15
    go_wp2_with (first | (go_at_call 29; refine (spec_Gap _ _ _ _).mono ?_; rintro e w1 ⟨rfl, rfl⟩; rw [HG.out]) | go_in)
    all_goals first | (exfalso; simp only [Bool.not_eq_true', Bool.not_eq_false', decide_eq_true_eq, decide_eq_false_iff_not] at *; omega) | (go_ret; refine ⟨ret_int HV.out.symm, ?_⟩; (repeat (refine Below.alloc ?_ (by first | omega | (simp; done) | (simp; omega)) _)); exact Below.refl _ _)
theorem impl_Move (x1 y1 x2 y2 s : Int) (w : World) :
    Calls Try.prog 17 #[.agg #[.int .i64 x1, .int .i64 y1], .agg #[.int .i64 x2, .int .i64 y2], .int .i64 s] w fun e w' => e = .returned (.int .i64 (moveZ x1 y1 x2 y2 s)) ∧ Below w.heap.size w w' := by
  have hg := gapZ_bd y1 y2 s
  unfold moveZ
  generalize hG : gapZ y1 y2 s = g at hg
  have HG := Lib.hid hG
  clear hG
  obtain ⟨hg1, hg2⟩ := hg
  by_cases hno : moveOk g x1 x2
  · have HV : Hid (moveG g x1 x2 = g + max (x1 - x2) (x2 - x1)) := if_pos hno
    obtain ⟨h1, h2, h3, h4, h5⟩ := hno
    go_enter Try.func17, Try.ntmps17
    go_wp2_with (first | (go_at_call 30; refine (impl_Gap _ _ _ _).mono ?_; rintro e w1 ⟨rfl, rfl⟩; rw [HG.out]) | go_in)
    all_goals (go_ret; refine ⟨ret_int ?_, ?_⟩)
    all_goals first | (rw [HV.out]; omega) | ((repeat (refine Below.alloc ?_ (by first | omega | (simp; done) | (simp; omega)) _)); exact Below.refl _ _)
  · have HV : Hid (moveG g x1 x2 = -1) := if_neg hno
    unfold moveOk at hno
    go_enter Try.func17, Try.ntmps17
    go_wp2_with (first | (go_at_call 30; refine (impl_Gap _ _ _ _).mono ?_; rintro e w1 ⟨rfl, rfl⟩; rw [HG.out]) | go_in)
    all_goals first | (exfalso; simp only [Bool.not_eq_true', Bool.not_eq_false', decide_eq_true_eq, decide_eq_false_iff_not] at *; omega) | (go_ret; refine ⟨ret_int HV.out.symm, ?_⟩; (repeat (refine Below.alloc ?_ (by first | omega | (simp; done) | (simp; omega)) _)); exact Below.refl _ _)
theorem toPin_any (x y : Int) (w : World) : Calls Try.prog 16 #[.agg #[.int .i64 x, .int .i64 y]] w fun e w' => e = .returned (.agg #[.int .i64 x, .int .i64 y]) ∧ Below w.heap.size w w' := by
  go_enter Try.func16, Try.ntmps16
  go_wp2
  refine bodyPost_ret (v := .agg #[.int .i64 x, .int .i64 y]) (by simp [results, Try.results16, go_sem]) rfl ⟨rfl, ?_⟩
  (repeat (refine Below.alloc ?_ (by first | omega | (simp; done) | (simp; omega)) _))
  exact Below.refl _ _
theorem held_start (w : World) (x1 y1 x2 y2 : Int) (e f : TypeId) (v : World) (hv : v = ((w.alloc (.cells #[.int .i64 x1, .int .i64 y1] e)).alloc (.cells #[.int .i64 x2, .int .i64 y2] f)).drew) :
    v.cell? ⟨w.heap.size, 0, none⟩ = some (.int .i64 x1) ∧ v.cell? ⟨w.heap.size, 1, none⟩ = some (.int .i64 y1) ∧ v.cell? ⟨w.heap.size + 1, 0, none⟩ = some (.int .i64 x2) ∧ v.cell? ⟨w.heap.size + 1, 1, none⟩ = some (.int .i64 y2) ∧ Below w.heap.size w v ∧ w.heap.size + 2 ≤ v.heap.size := by
  subst hv
  exact ⟨by simp [go_sem], by simp [go_sem], by simp [go_sem], by simp [go_sem], (((Below.refl _ _).alloc (Nat.le_refl _) _).alloc (by simp) _).drew, by simp⟩
theorem held_keep {w v u : World} {x1 y1 x2 y2 : Int} (h : v.cell? ⟨w.heap.size, 0, none⟩ = some (.int .i64 x1) ∧ v.cell? ⟨w.heap.size, 1, none⟩ = some (.int .i64 y1) ∧ v.cell? ⟨w.heap.size + 1, 0, none⟩ = some (.int .i64 x2) ∧ v.cell? ⟨w.heap.size + 1, 1, none⟩ = some (.int .i64 y2) ∧ Below w.heap.size w v ∧ w.heap.size + 2 ≤ v.heap.size)
    (hb : Below v.heap.size v u) : u.cell? ⟨w.heap.size, 0, none⟩ = some (.int .i64 x1) ∧ u.cell? ⟨w.heap.size, 1, none⟩ = some (.int .i64 y1) ∧ u.cell? ⟨w.heap.size + 1, 0, none⟩ = some (.int .i64 x2) ∧ u.cell? ⟨w.heap.size + 1, 1, none⟩ = some (.int .i64 y2) ∧ Below w.heap.size w u ∧ w.heap.size + 2 ≤ u.heap.size := by
  obtain ⟨h1, h2, h3, h4, h5, h6⟩ := h
  exact ⟨(hb.cell (by show w.heap.size < _; omega)).trans h1, (hb.cell (by show w.heap.size < _; omega)).trans h2, (hb.cell (by show w.heap.size + 1 < _; omega)).trans h3, (hb.cell (by show w.heap.size + 1 < _; omega)).trans h4, h5.trans (hb.mono (by omega)), Nat.le_trans h6 hb.size⟩
theorem walk_FnExactMoveCost (x1 y1 x2 y2 s : Int) (w : World) (_ : Rng x1) (_ : Rng y1) (_ : Rng x2) (_ : Rng y2) (_ : Rng s) :
    Calls Try.prog 6 #[.agg #[.int .i64 x1, .int .i64 y1], .agg #[.int .i64 x2, .int .i64 y2], .int .i64 s] w fun e w' => e = .returned (.bool true) ∧ Below w.heap.size w w' := by
  go_enter Try.func6, Try.ntmps6
  go_wp2_with fail
  go_region_held3 (fun w' => w'.cell? ⟨w.heap.size, 0, none⟩ = some (.int .i64 x1) ∧ w'.cell? ⟨w.heap.size, 1, none⟩ = some (.int .i64 y1) ∧ w'.cell? ⟨w.heap.size + 1, 0, none⟩ = some (.int .i64 x2) ∧ w'.cell? ⟨w.heap.size + 1, 1, none⟩ = some (.int .i64 y2) ∧ Below w.heap.size w w' ∧ w.heap.size + 2 ≤ w'.heap.size) (first | exact held_start w x1 y1 x2 y2 _ _ _ rfl | exact held_keep (by assumption) hb1)
    (first | (go_at_call 16; refine (toPin_any _ _ _).mono ?_; rintro e w1 ⟨rfl, hb1⟩) | (go_at_call 15; refine (spec_Move _ _ _ _ _ _).mono ?_; rintro e w1 ⟨rfl, hb1⟩))
  go_wp2_with fail
  go_region_held3 (fun w' => w'.cell? ⟨w.heap.size, 0, none⟩ = some (.int .i64 x1) ∧ w'.cell? ⟨w.heap.size, 1, none⟩ = some (.int .i64 y1) ∧ w'.cell? ⟨w.heap.size + 1, 0, none⟩ = some (.int .i64 x2) ∧ w'.cell? ⟨w.heap.size + 1, 1, none⟩ = some (.int .i64 y2) ∧ Below w.heap.size w w' ∧ w.heap.size + 2 ≤ w'.heap.size) (first | exact held_keep (by assumption) ((Below.refl _ _).drew) | exact held_keep (by assumption) hb1)
    (first | (go_at_call 16; refine (toPin_any _ _ _).mono ?_; rintro e w1 ⟨rfl, hb1⟩) | (go_at_call 17; refine (impl_Move _ _ _ _ _ _).mono ?_; rintro e w1 ⟨rfl, hb1⟩))
  rename_i hH
  have HB : Below w.heap.size w w1 := hH.2.2.2.2.1
  go_wp2_with fail
  go_ret
  exact ⟨rfl, HB⟩
end Go.Proofs.Ytmgemjogelcghaa
