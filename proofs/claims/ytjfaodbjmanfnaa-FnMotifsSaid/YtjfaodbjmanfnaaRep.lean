/- The longest part of a tune that comes again: the reference; and both functions for all arguments. -/
import Derived.Test.YtjfaodbjmanfnaaRepI
namespace Go.Proofs.Ytjfaodbjmanfnaa
open Go.ChangeShapes Go.WideShapes Go.ChangeAt Go.RowKit
set_option linter.unusedVariables false
attribute [local irreducible] tm pt tuneB samB subL lrI lrZ rpZ smN in
set_option maxHeartbeats 1600000 in
theorem spec_Rep_ok (A : Option Addr) (c : Nat) (t : List (Int × Int)) (w : World) (hrd : RdN w A t) (hc : t.length ≤ c) (hcm : c ≤ maxLen) (hl : t.length ≤ 100000) (hB : tuneB t = true) :
    Calls Try.prog 31 #[.slice A t.length c] w fun e w' => e = .returned (.int .i64 (lrZ t t.length : Nat)) ∧ Below w.heap.size w w' := by
  have HB := Lib.hid hB
  unfold maxLen at hcm
  clear hB
  go_enter Try.func31, Try.ntmps31
  go_wp2_with fail
  refine (spec_TuneOk _ _ _ _ hrd (by omega)).mono ?_
  rintro e w1 ⟨rfl, hb1⟩
  rw [HB.out]
  have hr1 := hrd.below hb1 rfl
  clear hrd
  go_wp2
  go_loopw [3, 4] (fun q i wr => ∃ k : Nat, k ≤ t.length ∧ i = .int .i64 k ∧ q = .int .i64 (lrZ t k : Nat) ∧ Below w1.heap.size w1 wr) (fun _ i _ => t.length - (intOf i).toNat)
  case atStart => exact ⟨0, by omega, rfl, by unfold lrZ; rfl, Below.refl _ _⟩
  case round =>
    obtain ⟨i, hi, rfl, rfl, hb⟩ := hrel
    have hz := lrZ_le t i
    by_cases hli : i < t.length
    · have HI0 := Lib.hid (show lrI t i (lrZ t i) (i + 1 - (i + 1)) = lrZ t i by rw [show i + 1 - (i + 1) = 0 by omega, lrI])
      go_wp2
      go_loopw [3, 5] (fun q j wr => ∃ k : Nat, i + 1 ≤ k ∧ k ≤ t.length ∧ j = .int .i64 k ∧ q = .int .i64 (lrI t i (lrZ t i) (k - (i + 1)) : Nat) ∧ Below w1.heap.size w1 wr) (fun _ j _ => t.length - (intOf j).toNat)
      case atStart => exact ⟨i + 1, by omega, by omega, by go_num, by rw [HI0.out], hb⟩
      case round =>
        obtain ⟨k, hk1, hk2, rfl, rfl, hbk⟩ := hrel
        have hy := lrI_le t i (lrZ t i) hz (k - (i + 1))
        by_cases hlk : k < t.length
        · have HA := Lib.hid (lrI_at (t := t) (a := lrZ t i) hk1)
          obtain ⟨a, ha⟩ : ∃ a, a = lrI t i (lrZ t i) (k - (i + 1)) := ⟨_, rfl⟩
          rw [← ha] at HA hy ⊢
          clear ha
          go_wp2
          go_loopw [6] (fun j wt => ∃ m : Nat, 1 ≤ m ∧ k + m ≤ t.length ∧ j = .int .i64 m ∧ smN t i k m ∧ Below w1.heap.size w1 wt) (fun j _ => t.length + 2 - (intOf j).toNat)
          case atStart => exact ⟨1, by omega, by omega, rfl, smN_one t i k, hbk⟩
          case round =>
            obtain ⟨m, hm1, hm2, rfl, hsm, hbt⟩ := hrel
            have HM := Lib.hid hsm
            clear hsm
            have W1 := Lib.hid (show IntKind.i64.wrap ((k : Int) + (m : Int)) = (k : Int) + (m : Int) from IntWalk.i64_in _ (by omega))
            have W2 := Lib.hid (show IntKind.i64.wrap ((i : Int) + (m : Int)) = (i : Int) + (m : Int) from IntWalk.i64_in _ (by omega))
            have W3 := Lib.hid (show IntKind.i64.wrap ((k : Int) + (m : Int) + 1) = (k : Int) + (m : Int) + 1 from IntWalk.i64_in _ (by omega))
            have W4 := Lib.hid (show IntKind.i64.wrap ((i : Int) + (m : Int) + 1) = (i : Int) + (m : Int) + 1 from IntWalk.i64_in _ (by omega))
            by_cases hg : k + (m + 1) ≤ t.length
            · have e1 : (k : Int) + (m : Int) < (t.length : Int) := by omega
              have e2 : (i : Int) + (m : Int) + 1 ≤ (t.length : Int) := by omega
              have e3 : (i : Int) + (m : Int) + 1 ≤ (c : Int) := by omega
              have e4 : (k : Int) + (m : Int) + 1 ≤ (c : Int) := by omega
              have e5 : (0 : Int) ≤ (i : Int) + (m : Int) + 1 := by omega
              have e6 : (0 : Int) ≤ (k : Int) + (m : Int) + 1 := by omega
              have e7 : (i : Int) ≤ (i : Int) + (m : Int) + 1 := by omega
              have e8 : (k : Int) ≤ (k : Int) + (m : Int) + 1 := by omega
              have e9 : (0 : Int) ≤ (i : Int) := by omega
              have e10 : (0 : Int) ≤ (k : Int) := by omega
              have hsb := fun h => samB_sub (t := t) (i := i) (k := k) (n := m + 1) h (by omega) hg
              have HSB := Lib.hid (hsb HB.out)
              clear hsb
              by_cases hS : smN t i k (m + 1)
              · have HG := Lib.hid hS
                have HS := Lib.hid (HSB.out.trans (decide_eq_true hS))
                clear hS
                go_wp2_with fail
                have v1 := W1.out
                have v2 := W2.out
                have v3 := W3.out
                have v4 := W4.out
                go_region_held3 (fun w' => Below w1.heap.size w1 w') (first | exact hbt.drew | exact Below.trans (by assumption) (hbz.mono (Below.size (by assumption))))
                  (first | (go_at_call 80; refine (spec_same_any _ _ A t i k (m + 1) _ _ _ (slc_eq (by omega) (by omega)) (slc_eq (by omega) (by omega)) (hr1.below (by assumption) rfl) (by omega) (by omega) (by omega)).mono ?_; rintro e wz ⟨rfl, hbz⟩; rw [HS.out]))
                clear v1 v2 v3 v4
                rename_i hH
                go_wp2
                go_roundw
                case rel => exact ⟨m + 1, by omega, by omega, by go_num, HG.out, hH⟩
                case measure => simp [intOf]; omega
              · have HS := Lib.hid (HSB.out.trans (decide_eq_false hS))
                have HN := Lib.hid (rpZ_eq (m := t.length - k) HM.out (by omega) (Or.inr hS))
                clear hS
                go_wp2_with fail
                have v1 := W1.out
                have v2 := W2.out
                have v3 := W3.out
                have v4 := W4.out
                go_region_held3 (fun w' => Below w1.heap.size w1 w') (first | exact hbt.drew | exact Below.trans (by assumption) (hbz.mono (Below.size (by assumption))))
                  (first | (go_at_call 80; refine (spec_same_any _ _ A t i k (m + 1) _ _ _ (slc_eq (by omega) (by omega)) (slc_eq (by omega) (by omega)) (hr1.below (by assumption) rfl) (by omega) (by omega) (by omega)).mono ?_; rintro e wz ⟨rfl, hbz⟩; rw [HS.out]))
                clear v1 v2 v3 v4
                rename_i hH
                go_wp2
                all_goals
                  go_roundw
                  case rel => exact ⟨k + 1, by omega, by omega, by go_num, by rw [HA.out, HN.out]; go_num, hH⟩
                  case measure => simp [intOf]; omega
            · have HN := Lib.hid (rpZ_eq (m := t.length - k) HM.out (by omega) (Or.inl (by omega)))
              have hgd : decide ((k : Int) + (m : Int) < (t.length : Int)) = false := decide_eq_false (by omega)
              go_wp2_with fail
              have v1 := W1.out
              go_quiet (fail)
              clear v1
              go_wp2
              all_goals
                go_roundw
                case rel => exact ⟨k + 1, by omega, by omega, by go_num, by rw [HA.out, HN.out]; go_num, bel_drewN hbt _⟩
                case measure => simp [intOf]; omega
        · obtain rfl : k = t.length := by omega
          have HZ := Lib.hid (show lrZ t (i + 1) = lrI t i (lrZ t i) (t.length - (i + 1)) by rw [lrZ])
          go_wp2
          go_roundw
          case rel => exact ⟨i + 1, by omega, by go_num, by rw [HZ.out], hbk⟩
          case measure => simp [intOf]; omega
    · obtain rfl : i = t.length := by omega
      go_wp2
      go_ret
      exact ⟨rfl, hb1.trans (hb.mono hb1.size)⟩
theorem impl_Rep (A : Option Addr) (c : Nat) (t : List (Int × Int)) (w : World) (hrd : RdN w A t) (hc : t.length ≤ c) (hcm : c ≤ maxLen) (hl : t.length ≤ 1000000000) :
    Calls Try.prog 17 #[.slice A t.length c] w fun e w' => e = .returned (.int .i64 (repB t)) ∧ Below w.heap.size w w' := by
  cases hA : tuneB t
  · have HV := Lib.hid (repB_no hA)
    have HA := Lib.hid hA
    clear hA
    go_enter Try.func17, Try.ntmps17
    go_wp2_with fail
    refine (impl_TuneOk _ _ _ _ hrd (by omega)).mono ?_
    rintro e w1 ⟨rfl, hb1⟩
    rw [HA.out]
    go_wp2
    go_ret
    exact ⟨ret_int HV.out.symm, hb1⟩
  · rw [repB_yes hA]
    have h1 := (of_decide_eq_true hA : tuneP t).2
    exact impl_Rep_ok A c t w hrd hc hcm (by omega) hA
theorem spec_Rep (A : Option Addr) (c : Nat) (t : List (Int × Int)) (w : World) (hrd : RdN w A t) (hc : t.length ≤ c) (hcm : c ≤ maxLen) (hl : t.length ≤ 1000000000) :
    Calls Try.prog 31 #[.slice A t.length c] w fun e w' => e = .returned (.int .i64 (repB t)) ∧ Below w.heap.size w w' := by
  cases hA : tuneB t
  · have HV := Lib.hid (repB_no hA)
    have HA := Lib.hid hA
    clear hA
    go_enter Try.func31, Try.ntmps31
    go_wp2_with fail
    refine (spec_TuneOk _ _ _ _ hrd (by omega)).mono ?_
    rintro e w1 ⟨rfl, hb1⟩
    rw [HA.out]
    go_wp2
    go_ret
    exact ⟨ret_int HV.out.symm, hb1⟩
  · rw [repB_yes hA]
    have h1 := (of_decide_eq_true hA : tuneP t).2
    exact spec_Rep_ok A c t w hrd hc hcm (by omega) hA
end Go.Proofs.Ytjfaodbjmanfnaa
