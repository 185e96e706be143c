/- The pitches that need a damper: the reference; and both functions for all arguments. -/
import Derived.Test.YtkbceojeahninaaDamp
namespace Go.Proofs.Ytkbceojeahninaa
open Go.ChangeShapes Go.WideShapes Go.ChangeAt Go.RowKit
set_option linter.unusedVariables false
theorem damI_keep {l : List (Int × Int)} {L p : Int} {k i : Nat} {f : Bool} (h : damI l L p k f i = true) : damI l L p k f (i + 1) = true := by show (_ || _) = _; rw [h]; rfl
theorem damI_yes {l : List (Int × Int)} {L p : Int} {k i : Nat} {f : Bool} (h : damQ l L p k i) : damI l L p k f (i + 1) = true := by show (_ || _) = _; rw [decide_eq_true h]; simp
theorem damI_no {l : List (Int × Int)} {L p : Int} {k i : Nat} {f : Bool} (h0 : damI l L p k f i = false) (h : ¬ damQ l L p k i) : damI l L p k f (i + 1) = false := by show (_ || _) = _; rw [h0, decide_eq_false h]; rfl
theorem impl_Damp (A : Option Addr) (c : Nat) (l : List (Int × Int)) (L : Int) (w : World) (hrd : RdN w A l) (hc : l.length ≤ c) (hcm : c ≤ maxLen) (hl : l.length ≤ 1000000000) :
    Calls Try.prog 22 #[.slice A l.length c, .int .i64 L] w (RetI 3 w.heap.size (damB l L) w) := by
  by_cases hok : damOk l L
  · rw [damB_yes hok]; exact impl_Damp_ok A c l L w hrd hc hcm hok
  · have HV := Lib.hid (damB_no hok)
    cases hB : tuneB l
    · have HB := Lib.hid hB
      clear hB hok
      go_enter Try.func22, Try.ntmps22
      go_wp2_with fail
      refine (impl_TuneOk _ _ _ _ hrd (by omega)).mono ?_
      rintro e w1 ⟨rfl, hb1⟩
      rw [HB.out]
      go_wp2
      go_ret
      rw [HV.out]
      exact RetI.mk (OwnI.nil0 _ _ _) hb1
    · have HB := Lib.hid hB
      have hL : ¬ (1 ≤ L ∧ L ≤ 100) := fun h => hok ⟨hB, h⟩
      clear hB hok
      go_enter Try.func22, Try.ntmps22
      go_wp2_with fail
      refine (impl_TuneOk _ _ _ _ hrd (by omega)).mono ?_
      rintro e w1 ⟨rfl, hb1⟩
      rw [HB.out]
      go_wp2_with fail
      refine (wi_no _ _ _ _ hL).mono ?_
      rintro e wz ⟨rfl, rfl⟩
      go_wp2
      go_ret
      rw [HV.out]
      exact RetI.mk (OwnI.nil0 _ _ _) hb1
end Go.Proofs.Ytkbceojeahninaa
