/- The times at which a tune sounds harsh: the reference; and the greatest length that is clean. -/
import Derived.Test.YtkbceojeahninaaHarsh
namespace Go.Proofs.Ytkbceojeahninaa
open Go.ChangeShapes Go.WideShapes Go.ChangeAt Go.RowKit
set_option linter.unusedVariables false
theorem hsI_keep {l : List Int} {i j : Nat} {f : Bool} (h : hsI l i f j = true) : hsI l i f (j + 1) = true := by show (_ || _) = _; rw [h]; rfl
theorem hsI_next {l : List Int} {i j : Nat} {f : Bool} (h : hsI l i f j = false) : hsI l i f (j + 1) = !swt (gt l i) (gt l j) := by show (_ || _) = _; rw [h]; rfl
noncomputable def lcZ (l : List (Int × Int)) : Nat → Nat
  | 0 => 0
  | n + 1 => if (hrB l ((n : Int) + 1)).length = 0 then n + 1 else lcZ l n
theorem lc_yes {l : List (Int × Int)} {n : Nat} (h : (hrB l ((n : Int) + 1)).length = 0) : lcZ l (n + 1) = n + 1 := if_pos h
theorem lc_no {l : List (Int × Int)} {n : Nat} (h : ¬ (hrB l ((n : Int) + 1)).length = 0) : lcZ l (n + 1) = lcZ l n := if_neg h
noncomputable def lcB (l : List (Int × Int)) : Int := if tuneB l = true then (lcZ l 100 : Int) else 0
theorem lcB_yes {l : List (Int × Int)} (h : tuneB l = true) : lcB l = (lcZ l 100 : Int) := if_pos h
theorem lcB_no {l : List (Int × Int)} (h : tuneB l = false) : lcB l = 0 := if_neg (by rw [h]; simp)
attribute [local irreducible] lcZ hrB tuneB in
set_option maxHeartbeats 800000 in
theorem impl_Clean (A : Option Addr) (c : Nat) (l : List (Int × Int)) (w : World) (hrd : RdN w A l) (hl : l.length ≤ 1000000000) :
    Calls Try.prog 23 #[.slice A l.length c] w fun e w' => e = .returned (.int .i64 (lcB l)) ∧ Below w.heap.size w w' := by
  cases hB : tuneB l
  · have HV := Lib.hid (lcB_no hB)
    have HB := Lib.hid hB
    clear hB
    go_enter Try.func23, Try.ntmps23
    go_wp2_with fail
    refine (impl_TuneOk _ _ _ _ hrd (by omega)).mono ?_
    rintro e w1 ⟨rfl, hb1⟩
    rw [HB.out]
    go_wp2
    go_ret
    exact ⟨ret_int HV.out.symm, hb1⟩
  · have HV := Lib.hid (lcB_yes hB)
    have HB := Lib.hid hB
    clear hB
    go_enter Try.func23, Try.ntmps23
    go_wp2_with fail
    refine (impl_TuneOk _ _ _ _ hrd (by omega)).mono ?_
    rintro e w1 ⟨rfl, hb1⟩
    rw [HB.out]
    have hr1 := hrd.below hb1 rfl
    clear hrd
    go_wp2
    go_loopw [3] (fun i wr => ∃ n : Nat, n ≤ 100 ∧ i = .int .i64 n ∧ lcZ l 100 = lcZ l n ∧ Below w1.heap.size w1 wr) (fun i _ => (intOf i).toNat)
    case atStart => exact ⟨100, by omega, rfl, rfl, Below.refl _ _⟩
    case round =>
      obtain ⟨n, hn, rfl, hM, hb⟩ := hrel
      have HM := Lib.hid hM
      clear hM
      rcases Nat.eq_zero_or_pos n with h0 | h0
      · have HZ := Lib.hid (show lcB l = 0 by rw [HV.out, HM.out, h0, lcZ]; rfl)
        subst h0
        go_wp2
        go_ret
        exact ⟨ret_int HZ.out.symm, hb1.trans (hb.mono hb1.size)⟩
      · obtain ⟨m, rfl⟩ : ∃ m, n = m + 1 := ⟨n - 1, by omega⟩
        have hcast : ((m + 1 : Nat) : Int) = (m : Int) + 1 := by omega
        have hge : (1 : Int) ≤ (m : Int) + 1 := by omega
        rw [hcast]
        have hlen := hrB_len l ((m : Int) + 1)
        clear hcast
        go_wp2_with fail
        refine (impl_Harsh _ _ _ _ _ (hr1.below hb rfl) (by omega)).mono ?_
        rintro e w2 ⟨A2, c2, rfl, _, _, _, _, _, hb2⟩
        have hb3 := hb.trans (hb2.mono hb.size)
        by_cases hz : (hrB l ((m : Int) + 1)).length = 0
        · have HY := Lib.hid (show lcB l = (m : Int) + 1 by rw [HV.out, HM.out, lc_yes hz]; rfl)
          have hq : ((hrB l ((m : Int) + 1)).length == 0) = true := by simpa using hz
          have hq2 : (((hrB l ((m : Int) + 1)).length : Int) == 0) = true := by simpa using hz
          have hq3 := List.length_eq_zero_iff.1 hz
          clear hz
          go_wp2
          go_ret
          exact ⟨ret_int HY.out.symm, hb1.trans (hb3.mono hb1.size)⟩
        · have HY := Lib.hid (HM.out.trans (lc_no hz))
          have hq2 : (((hrB l ((m : Int) + 1)).length : Int) == 0) = false := by rw [beq_eq_false_iff_ne]; omega
          have hq3 : ¬ hrB l ((m : Int) + 1) = [] := fun h => hz (List.length_eq_zero_iff.2 h)
          clear hz
          go_wp2
          go_roundw
          case rel => exact ⟨m, by omega, by go_num, HY.out, hb3⟩
          case measure => simp [intOf]
end Go.Proofs.Ytkbceojeahninaa
