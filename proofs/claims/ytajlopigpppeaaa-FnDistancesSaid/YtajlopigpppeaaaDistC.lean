/- The distance of two tunes: both functions by contract, for all arguments; and whether a tune is a variation of another. -/
import Derived.Test.YtajlopigpppeaaaDistI
namespace Go.Proofs.Ytajlopigpppeaaa
open Go.ChangeShapes Go.WideShapes Go.ChangeAt Go.RowKit
set_option linter.unusedVariables false
theorem tune_len {l : List (Int × Int)} (h : tuneB l = true) : l.length ≤ 40 := (of_decide_eq_true h : tuneP l).2
noncomputable def disB (a b : List (Int × Int)) : Int := if tuneB a = true ∧ tuneB b = true then dis a b a.length b.length else -1
theorem disB_yes {a b : List (Int × Int)} (ha : tuneB a = true) (hb : tuneB b = true) : disB a b = dis a b a.length b.length := if_pos ⟨ha, hb⟩
theorem disB_no {a b : List (Int × Int)} (h : ¬ (tuneB a = true ∧ tuneB b = true)) : disB a b = -1 := if_neg h
theorem disB_rng (a b : List (Int × Int)) : -1 ≤ disB a b ∧ disB a b ≤ 80 := by
  by_cases h : tuneB a = true ∧ tuneB b = true
  · rw [disB_yes h.1 h.2]
    have := dis_rng a b a.length b.length
    have := tune_len h.1
    have := tune_len h.2
    omega
  · rw [disB_no h]; omega
set_option maxHeartbeats 800000 in
theorem impl_Dist (A B : Option Addr) (c d : Nat) (a b : List (Int × Int)) (w : World) (hra : RdN w A a) (hrb : RdN w B b) (hla : a.length ≤ 1000000000) (hlb : b.length ≤ 1000000000) :
    Calls Try.prog 32 #[.slice A a.length c, .slice B b.length d] w fun e w' => e = .returned (.int .i64 (disB a b)) ∧ Below w.heap.size w w' := by
  cases hA : tuneB a
  · have HV := Lib.hid (disB_no (a := a) (b := b) (by rw [hA]; simp))
    have HA := Lib.hid hA
    clear hA
    go_enter Try.func32, Try.ntmps32
    go_wp2_with fail
    refine (impl_TuneOk _ _ _ _ hra (by omega)).mono ?_
    rintro e w1 ⟨rfl, hb1⟩
    rw [HA.out]
    go_wp2
    go_ret
    exact ⟨ret_int HV.out.symm, hb1⟩
  · cases hB : tuneB b
    · have HV := Lib.hid (disB_no (a := a) (b := b) (by rw [hB]; simp))
      have HA := Lib.hid hA
      have HB := Lib.hid hB
      clear hA hB
      go_enter Try.func32, Try.ntmps32
      go_wp2_with fail
      refine (impl_TuneOk _ _ _ _ hra (by omega)).mono ?_
      rintro e w1 ⟨rfl, hb1⟩
      rw [HA.out]
      go_wp2_with fail
      refine (impl_TuneOk _ _ _ _ (hrb.below hb1 rfl) (by omega)).mono ?_
      rintro e w2 ⟨rfl, hb2⟩
      rw [HB.out]
      go_wp2
      go_ret
      exact ⟨ret_int HV.out.symm, hb1.trans (hb2.mono hb1.size)⟩
    · have h1 := tune_len hA
      have h2 := tune_len hB
      rw [disB_yes hA hB]
      exact impl_Dist_ok A B c d a b w hra hrb (by omega) (by omega) hA hB
theorem impl_Vari (A B : Option Addr) (c d : Nat) (a b : List (Int × Int)) (m : Int) (w : World) (hra : RdN w A a) (hrb : RdN w B b) (hla : a.length ≤ 1000000000) (hlb : b.length ≤ 1000000000) :
    Calls Try.prog 38 #[.slice A a.length c, .slice B b.length d, .int .i64 m] w fun e w' => e = .returned (.bool (decide (0 ≤ disB a b) && decide (disB a b ≤ m))) ∧ Below w.heap.size w w' := by
  have hr := disB_rng a b
  obtain ⟨D, hD⟩ : ∃ D, D = disB a b := ⟨_, rfl⟩
  rw [← hD] at hr
  have HD := Lib.hid hD
  rw [← hD]
  clear hD
  by_cases h0 : 0 ≤ D
  · by_cases h1 : D ≤ m
    · have HV := Lib.hid (show (decide (0 ≤ D) && decide (D ≤ m)) = true by rw [decide_eq_true h0, decide_eq_true h1]; rfl)
      go_enter Try.func38, Try.ntmps38
      go_wp2_with fail
      refine (impl_Dist A B c d a b w hra hrb hla hlb).mono ?_
      rintro e w1 ⟨rfl, hb1⟩
      rw [← HD.out]
      go_wp2
      go_ret
      exact ⟨ret_bool (by rw [HV.out] <;> first | rfl | (simp; omega) | (simp; done)), hb1⟩
    · have HV := Lib.hid (show (decide (0 ≤ D) && decide (D ≤ m)) = false by rw [decide_eq_false h1]; simp)
      go_enter Try.func38, Try.ntmps38
      go_wp2_with fail
      refine (impl_Dist A B c d a b w hra hrb hla hlb).mono ?_
      rintro e w1 ⟨rfl, hb1⟩
      rw [← HD.out]
      go_wp2
      go_ret
      exact ⟨ret_bool (by rw [HV.out] <;> first | rfl | (simp; omega) | (simp; done)), hb1⟩
  · have HV := Lib.hid (show (decide (0 ≤ D) && decide (D ≤ m)) = false by rw [decide_eq_false h0]; simp)
    go_enter Try.func38, Try.ntmps38
    go_wp2_with fail
    refine (impl_Dist A B c d a b w hra hrb hla hlb).mono ?_
    rintro e w1 ⟨rfl, hb1⟩
    rw [← HD.out]
    go_wp2
    go_ret
    exact ⟨ret_bool HV.out.symm, hb1⟩
end Go.Proofs.Ytajlopigpppeaaa
