/- The program's and the reference's MajorScale return the same for every number; and the laws on MajorScale and RotateScale. -/
import Derived.Test.YtjfaodbjmanfnaaScaleA
namespace Go.Proofs.Ytjfaodbjmanfnaa
open Go.ChangeShapes Go.WideShapes Go.ChangeAt Go.RowKit
set_option linter.unusedVariables false

/-- The set of steps of a list of integers, so far. -/
def stepsTo (l : List Int) (k : Nat) : Nat := (l.take k).foldl (fun acc p => acc ||| 1 <<< (p.toNat % 12)) 0
theorem stepsTo_succ (l : List Int) (k : Nat) (h : k < l.length) : stepsTo l (k + 1) = stepsTo l k ||| 1 <<< ((gt l k).toNat % 12) := by
  unfold stepsTo
  rw [List.take_succ_eq_append_getElem h, List.foldl_append]
  simp [gt, List.getD, h]
theorem stepsTo_lt (l : List Int) (k : Nat) : stepsTo l k < 4096 := by
  unfold stepsTo
  have : ∀ (m : List Int) (a : Nat), a < 4096 → m.foldl (fun acc (p : Int) => acc ||| 1 <<< (p.toNat % 12)) a < 4096 := by
    intro m
    induction m with
    | nil => intro a h; exact h
    | cons x m ih =>
      intro a h
      refine ih _ ?_
      have h1 : 1 <<< (x.toNat % 12) < 2 ^ 12 := by
        rw [Nat.one_shiftLeft]
        exact Nat.pow_lt_pow_right (by omega) (Nat.mod_lt _ (by omega))
      exact Nat.or_lt_two_pow (n := 12) h h1
  exact this _ 0 (by omega)
def stepsOf (l : List Int) : Nat := stepsTo l l.length

set_option maxHeartbeats 400000 in
theorem stepsSet_any (A : Option Addr) (c : Nat) (l : List Int) (w : World) (hrd : RdI w A l) (hl : l.length ≤ 1000000) (hr : ∀ i, i < l.length → 0 ≤ gt l i ∧ gt l i ≤ 1000) :
    Calls Try.prog 98 #[.slice A l.length c] w fun e w' => e = .returned (.int .i64 (stepsOf l : Nat)) ∧ w = w' := by
  go_enter Try.func98, Try.ntmps98
  go_wp2
  go_loop [3, 8] (fun t i => ∃ k : Nat, k ≤ l.length ∧ i = .int .i64 k ∧ t = .int .i64 (stepsTo l k : Nat)) (fun _ i => l.length - (intOf i).toNat)
  case atStart => exact ⟨0, by omega, rfl, rfl⟩
  case round =>
    obtain ⟨k, hk, rfl, rfl⟩ := hrel
    by_cases hlt : k < l.length
    · obtain ⟨bb, off, rfl, _, hcell⟩ := hrd (by omega)
      have hcx := hcell k hlt
      have hrk := hr k hlt
      have HS := Lib.hid (stepsTo_succ l k hlt)
      obtain ⟨x, hx⟩ := Int.eq_ofNat_of_zero_le hrk.1
      rw [hx] at hcx hrk HS
      clear hcell hx hr hrd
      go_wp2
      go_round
      case rel => exact ⟨k + 1, by omega, by go_num, by rw [HS.out, or_step _ _ (stepsTo_lt l k) (Nat.mod_lt _ (by omega))]; rfl⟩
      case measure => simp [intOf]; omega
    · go_wp2
      go_ret
      obtain rfl : k = l.length := by omega
      exact ⟨rfl, rfl⟩
theorem lit_rd (w : World) (e : TypeId) (l : List Int) : RdI (w.alloc (.cells (ints l).toArray e)) (some ⟨w.heap.size, 0, none⟩) l := by
  intro _
  refine ⟨w.heap.size, 0, rfl, by simp, fun j hj => ?_⟩
  rw [cell_of_row (w.alloc (.cells (ints l).toArray e)) w.heap.size (0 + j) (ints l).toArray e (0, 0) (heap_alloc_new w _), Nat.zero_add]
  simpa using ints_get l j hj
def majL (r : Nat) : List Int := [(r : Int), (r : Int) + 2, (r : Int) + 4, (r : Int) + 5, (r : Int) + 7, (r : Int) + 9, (r : Int) + 11]
theorem majL_nats (r : Nat) : majL r = nats [r, r + 2, r + 4, r + 5, r + 7, r + 9, r + 11] := by simp [majL, nats]
theorem majL_val (r : Nat) (hr : r < 12) : stepsOf (majL r) = rotN 2741 r := by
  rw [← major_all r hr, majL_nats]
  rfl
theorem majL_bd (r : Nat) (hr : r < 12) (i : Nat) (hi : i < (majL r).length) : 0 ≤ gt (majL r) i ∧ gt (majL r) i ≤ 1000 := by
  have hl : i < 7 := hi
  have h : ∀ x ∈ majL r, 0 ≤ x ∧ x ≤ 1000 := by
    intro x hx
    simp [majL] at hx
    omega
  have hg : gt (majL r) i = (majL r)[i] := by
    unfold gt
    rw [List.getD, List.getElem?_eq_getElem hi]
    rfl
  rw [hg]
  exact h _ (List.getElem_mem hi)
set_option maxHeartbeats 400000 in
theorem impl_Major_ok (r : Nat) (w : World) (hr : r < 12) :
    Calls Try.prog 63 #[.int .i64 r] w fun e w' => e = .returned (.int .i64 (rotN 2741 r : Nat)) ∧ Below w.heap.size w w' := by
  have hr1 : (r : Int) ≤ 11 := by omega
  go_enter Try.func63, Try.ntmps63
  go_wp2_with (go_at_call 73; go_in)
  have hst := stepsSet_any (some ⟨w.heap.size, 0, none⟩) 7 (majL r) _ (lit_rd w 3 (majL r)) (by simp [majL]) (majL_bd r hr)
  rw [majL_val r hr] at hst
  refine Calls.mono hst ?_
  rintro e w' ⟨rfl, rfl⟩
  go_wp2
  go_ret
  exact ⟨rfl, (Below.refl _ _).alloc (Nat.le_refl _) _⟩
theorem impl_Major_no (r : Int) (w : World) (h : ¬ (0 ≤ r ∧ r ≤ 11)) :
    Calls Try.prog 63 #[.int .i64 r] w fun e w' => e = .returned (.int .i64 (-1)) ∧ Below w.heap.size w w' := by
  by_cases h3 : 0 ≤ r
  · have h4 : ¬ r ≤ 11 := by omega
    go_enter Try.func63, Try.ntmps63
    go_wp2
    go_ret
    exact ⟨rfl, Below.refl _ _⟩
  · go_enter Try.func63, Try.ntmps63
    go_wp2
    go_ret
    exact ⟨rfl, Below.refl _ _⟩
theorem impl_Major (r : Int) (w : World) :
    Calls Try.prog 63 #[.int .i64 r] w fun e w' => e = .returned (.int .i64 (rotZ 2741 r)) ∧ Below w.heap.size w w' := by
  unfold rotZ
  by_cases h : 0 ≤ r ∧ r ≤ 11
  · rw [if_pos ⟨by omega, by omega, h.1, h.2⟩]
    obtain ⟨n, rfl⟩ := Int.eq_ofNat_of_zero_le h.1
    exact impl_Major_ok n w (by omega)
  · rw [if_neg (by omega)]
    exact impl_Major_no r w h
theorem spec_Major (r : Int) (w : World) :
    Calls Try.prog 91 #[.int .i64 r] w fun e w' => e = .returned (.int .i64 (rotZ 2741 r)) ∧ Below w.heap.size w w' := by
  go_enter Try.func91, Try.ntmps91
  go_wp2_with (go_at_call 104; refine (spec_Rotate _ _ _).mono ?_; rintro e w1 ⟨rfl, hb⟩)
  go_ret
  exact ⟨rfl, hb⟩
end Go.Proofs.Ytjfaodbjmanfnaa
