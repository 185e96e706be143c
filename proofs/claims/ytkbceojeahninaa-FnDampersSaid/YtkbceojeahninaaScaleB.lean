/- The program's and the reference's MajorScale return the same for every number; and the laws on MajorScale and RotateScale. -/
import Derived.Test.YtkbceojeahninaaScaleA
namespace Go.Proofs.Ytkbceojeahninaa
open Go.ChangeShapes Go.WideShapes Go.ChangeAt Go.RowKit
set_option linter.unusedVariables false

/-- The set of steps of a list of integers, so far. -/
def stepsTo (l : List Int) (k : Nat) : Nat := (l.take k).foldl (fun acc p => acc ||| 1 <<< (p.toNat % 12)) 0
theorem stepsTo_succ (l : List Int) (k : Nat) (h : k < l.length) : stepsTo l (k + 1) = stepsTo l k ||| 1 <<< ((gt l k).toNat % 12) := by
  unfold stepsTo
  rw [List.take_succ_eq_append_getElem h, List.foldl_append]
  simp [gt, List.getD, h]
theorem stepsTo_lt (l : List Int) (k : Nat) : stepsTo l k < 4096 := by
  unfold stepsTo
  have : ∀ (m : List Int) (a : Nat), a < 4096 → m.foldl (fun acc (p : Int) => acc ||| 1 <<< (p.toNat % 12)) a < 4096 := by
    intro m
    induction m with
    | nil => intro a h; exact h
    | cons x m ih =>
      intro a h
      refine ih _ ?_
      have h1 : 1 <<< (x.toNat % 12) < 2 ^ 12 := by
        rw [Nat.one_shiftLeft]
        exact Nat.pow_lt_pow_right (by omega) (Nat.mod_lt _ (by omega))
      exact Nat.or_lt_two_pow (n := 12) h h1
  exact this _ 0 (by omega)
def stepsOf (l : List Int) : Nat := stepsTo l l.length

theorem lit_rd (w : World) (e : TypeId) (l : List Int) : RdI (w.alloc (.cells (ints l).toArray e)) (some ⟨w.heap.size, 0, none⟩) l := by
  intro _
  refine ⟨w.heap.size, 0, rfl, by simp, fun j hj => ?_⟩
  rw [cell_of_row (w.alloc (.cells (ints l).toArray e)) w.heap.size (0 + j) (ints l).toArray e (0, 0) (heap_alloc_new w _), Nat.zero_add]
  simpa using ints_get l j hj
def majL (r : Nat) : List Int := [(r : Int), (r : Int) + 2, (r : Int) + 4, (r : Int) + 5, (r : Int) + 7, (r : Int) + 9, (r : Int) + 11]
theorem majL_nats (r : Nat) : majL r = nats [r, r + 2, r + 4, r + 5, r + 7, r + 9, r + 11] := by simp [majL, nats]
theorem majL_val (r : Nat) (hr : r < 12) : stepsOf (majL r) = rotN 2741 r := by
  rw [← major_all r hr, majL_nats]
  rfl
theorem majL_bd (r : Nat) (hr : r < 12) (i : Nat) (hi : i < (majL r).length) : 0 ≤ gt (majL r) i ∧ gt (majL r) i ≤ 1000 := by
  have hl : i < 7 := hi
  have h : ∀ x ∈ majL r, 0 ≤ x ∧ x ≤ 1000 := by
    intro x hx
    simp [majL] at hx
    omega
  have hg : gt (majL r) i = (majL r)[i] := by
    unfold gt
    rw [List.getD, List.getElem?_eq_getElem hi]
    rfl
  rw [hg]
  exact h _ (List.getElem_mem hi)
end Go.Proofs.Ytkbceojeahninaa
