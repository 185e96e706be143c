/- The scale with the fewest wrong notes. -/
import Derived.Test.YtjfaodbjmanfnaaWrong
namespace Go.Proofs.Ytjfaodbjmanfnaa
open Go.ChangeShapes Go.WideShapes Go.ChangeAt Go.RowKit
set_option linter.unusedVariables false
noncomputable def bstZ (l : List (Int × Int)) : Nat → Nat
  | 0 => 0
  | k + 1 => if wroB l (k : Int) < wroB l (bstZ l k : Int) then k else bstZ l k
theorem bstZ_le (l : List (Int × Int)) : ∀ k, bstZ l (k + 1) ≤ k
  | 0 => by unfold bstZ; split <;> simp [bstZ]
  | k + 1 => by have := bstZ_le l k; rw [bstZ]; split <;> omega
theorem bst_yes {l : List (Int × Int)} {k : Nat} (h : wroB l (k : Int) < wroB l (bstZ l k : Int)) : bstZ l (k + 1) = k := if_pos h
theorem bst_no {l : List (Int × Int)} {k : Nat} (h : ¬ wroB l (k : Int) < wroB l (bstZ l k : Int)) : bstZ l (k + 1) = bstZ l k := if_neg h
theorem bst_one (l : List (Int × Int)) : bstZ l 1 = 0 := by unfold bstZ; simp [bstZ]
noncomputable def bstB (l : List (Int × Int)) : Int := if tuneB l = true then (bstZ l 12 : Int) else -1
theorem bstB_yes {l : List (Int × Int)} (h : tuneB l = true) : bstB l = (bstZ l 12 : Int) := if_pos h
theorem bstB_no {l : List (Int × Int)} (h : tuneB l = false) : bstB l = -1 := if_neg (by rw [h]; simp)
attribute [local irreducible] bstZ wroB tuneB in
set_option maxHeartbeats 800000 in
theorem impl_Best (A : Option Addr) (c : Nat) (l : List (Int × Int)) (w : World) (hrd : RdN w A l) (hl : l.length ≤ 1000000000) :
    Calls Try.prog 37 #[.slice A l.length c] w fun e w' => e = .returned (.int .i64 (bstB l)) ∧ Below w.heap.size w w' := by
  cases hB : tuneB l
  · have HV := Lib.hid (bstB_no hB)
    have HB := Lib.hid hB
    clear hB
    go_enter Try.func37, Try.ntmps37
    go_wp2_with fail
    refine (impl_TuneOk _ _ _ _ hrd (by omega)).mono ?_
    rintro e w1 ⟨rfl, hb1⟩
    rw [HB.out]
    go_wp2
    go_ret
    exact ⟨ret_int HV.out.symm, hb1⟩
  · have HV := Lib.hid (bstB_yes hB)
    have HB := Lib.hid hB
    clear hB
    go_enter Try.func37, Try.ntmps37
    go_wp2_with fail
    refine (impl_TuneOk _ _ _ _ hrd (by omega)).mono ?_
    rintro e w1 ⟨rfl, hb1⟩
    rw [HB.out]
    have hr1 := hrd.below hb1 rfl
    clear hrd
    go_wp2
    go_loopw [3, 4] (fun q i wr => ∃ k : Nat, 1 ≤ k ∧ k ≤ 12 ∧ i = .int .i64 k ∧ q = .int .i64 (bstZ l k : Nat) ∧ Below w1.heap.size w1 wr) (fun _ i _ => 12 - (intOf i).toNat)
    case atStart => exact ⟨1, by omega, by omega, rfl, by rw [bst_one]; rfl, Below.refl _ _⟩
    case round =>
      obtain ⟨k, hk0, hk, rfl, rfl, hb⟩ := hrel
      by_cases hlt : k < 12
      · have hlt2 : (k : Int) < 12 := by omega
        go_wp2_with fail
        refine (impl_WrongNotes _ _ _ _ _ (hr1.below hb rfl) (by omega)).mono ?_
        rintro e w2 ⟨rfl, hb2⟩
        have hb3 := hb.trans (hb2.mono hb.size)
        go_wp2_with fail
        refine (impl_WrongNotes _ _ _ _ _ (hr1.below hb3 rfl) (by omega)).mono ?_
        rintro e w3 ⟨rfl, hb4⟩
        have hb5 := hb3.trans (hb4.mono hb3.size)
        by_cases hW : wroB l (k : Int) < wroB l (bstZ l k : Int)
        · have HY := Lib.hid (bst_yes hW)
          go_wp2
          go_roundw
          case rel => exact ⟨k + 1, by omega, by omega, by go_num, by rw [HY.out], hb5⟩
          case measure => simp [intOf]; omega
        · have HY := Lib.hid (bst_no hW)
          go_wp2
          go_roundw
          case rel => exact ⟨k + 1, by omega, by omega, by go_num, by rw [HY.out], hb5⟩
          case measure => simp [intOf]; omega
      · obtain rfl : k = 12 := by omega
        go_wp2
        go_ret
        exact ⟨ret_int HV.out.symm, hb1.trans (hb.mono hb1.size)⟩
attribute [local irreducible] bstZ wroB tuneB in
set_option maxHeartbeats 800000 in
theorem spec_Best (A : Option Addr) (c : Nat) (l : List (Int × Int)) (w : World) (hrd : RdN w A l) (hl : l.length ≤ 1000000000) :
    Calls Try.prog 36 #[.slice A l.length c] w fun e w' => e = .returned (.int .i64 (bstB l)) ∧ Below w.heap.size w w' := by
  cases hB : tuneB l
  · have HV := Lib.hid (bstB_no hB)
    have HB := Lib.hid hB
    clear hB
    go_enter Try.func36, Try.ntmps36
    go_wp2_with fail
    refine (spec_TuneOk _ _ _ _ hrd (by omega)).mono ?_
    rintro e w1 ⟨rfl, hb1⟩
    rw [HB.out]
    go_wp2
    go_ret
    exact ⟨ret_int HV.out.symm, hb1⟩
  · have HV := Lib.hid (bstB_yes hB)
    have HB := Lib.hid hB
    clear hB
    go_enter Try.func36, Try.ntmps36
    go_wp2_with fail
    refine (spec_TuneOk _ _ _ _ hrd (by omega)).mono ?_
    rintro e w1 ⟨rfl, hb1⟩
    rw [HB.out]
    have hr1 := hrd.below hb1 rfl
    clear hrd
    go_wp2
    go_loopw [3, 4] (fun q i wr => ∃ k : Nat, 0 ≤ k ∧ k ≤ 12 ∧ i = .int .i64 k ∧ q = .int .i64 (bstZ l k : Nat) ∧ Below w1.heap.size w1 wr) (fun _ i _ => 12 - (intOf i).toNat)
    case atStart => exact ⟨0, by omega, by omega, rfl, by unfold bstZ; rfl, Below.refl _ _⟩
    case round =>
      obtain ⟨k, hk0, hk, rfl, rfl, hb⟩ := hrel
      by_cases hlt : k < 12
      · have hlt2 : (k : Int) < 12 := by omega
        go_wp2_with fail
        refine (spec_WrongNotes _ _ _ _ _ (hr1.below hb rfl) (by omega)).mono ?_
        rintro e w2 ⟨rfl, hb2⟩
        have hb3 := hb.trans (hb2.mono hb.size)
        go_wp2_with fail
        refine (spec_WrongNotes _ _ _ _ _ (hr1.below hb3 rfl) (by omega)).mono ?_
        rintro e w3 ⟨rfl, hb4⟩
        have hb5 := hb3.trans (hb4.mono hb3.size)
        by_cases hW : wroB l (k : Int) < wroB l (bstZ l k : Int)
        · have HY := Lib.hid (bst_yes hW)
          go_wp2
          go_roundw
          case rel => exact ⟨k + 1, by omega, by omega, by go_num, by rw [HY.out], hb5⟩
          case measure => simp [intOf]; omega
        · have HY := Lib.hid (bst_no hW)
          go_wp2
          go_roundw
          case rel => exact ⟨k + 1, by omega, by omega, by go_num, by rw [HY.out], hb5⟩
          case measure => simp [intOf]; omega
      · obtain rfl : k = 12 := by omega
        go_wp2
        go_ret
        exact ⟨ret_int HV.out.symm, hb1.trans (hb.mono hb1.size)⟩
end Go.Proofs.Ytjfaodbjmanfnaa
