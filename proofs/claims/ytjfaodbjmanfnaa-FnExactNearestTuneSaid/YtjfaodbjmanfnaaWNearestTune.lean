/- The walk of the law on NearestTune. -/
import Derived.Test.YtjfaodbjmanfnaaNear
namespace Go.Proofs.Ytjfaodbjmanfnaa
open Go.ChangeShapes Go.WideShapes Go.ChangeAt Go.RowKit
set_option linter.unusedVariables false
attribute [local irreducible] totZ nt szZ nearB in
set_option maxHeartbeats 800000 in
theorem walk_FnExactNearestTune (A_0 : Option Addr) (c_0 : Nat) (ls : List (List (Int × Int))) (A_1 : Option Addr) (c_1 : Nat) (l_1 : List (Int × Int)) (w : World) (q_0 : ls.length ≤ c_0 ∧ c_0 ≤ maxLen ∧ RdNS w A_0 ls ∧ True) (q_1 : l_1.length ≤ c_1 ∧ c_1 ≤ maxLen ∧ RdN w A_1 l_1 ∧ ∀ i, i < l_1.length → Rng (tm l_1 i) ∧ Rng (pt l_1 i)) :
    Calls Try.prog 12 #[.slice A_0 ls.length c_0, .slice A_1 l_1.length c_1] w fun e w' => e = .returned (.bool true) ∧ Below w.heap.size w w' := by
  obtain ⟨hc_0, hm_0, rd_0, _⟩ := q_0
  obtain ⟨hc_1, hm_1, rd_1, rg_1⟩ := q_1
  have hcm_1 := hm_1
  unfold maxLen at hcm_1
  clear rg_1
  by_cases hs : szOk ls 1048576
  · have HZ := Lib.hid (szZ_yes hs)
    have hs2 := hs
    unfold szOk at hs2
    have HNL := Lib.hid (fun k (hk : k < ls.length) => (show (nt ls k).length ≤ 1000000000 by have := nt_le hk; omega))
    obtain ⟨m, hm⟩ : ∃ m : Nat, (1048576 : Int) - ((ls.length : Int) + (totZ ls ls.length : Nat)) = (m : Int) := ⟨(1048576 - (ls.length + totZ ls ls.length)), by omega⟩
    have HM := Lib.hid hm
    have hm2 : m ≤ 1048576 := by omega
    have hls : ls.length ≤ 1048576 := by omega
    clear hs hs2 hm
    by_cases hbig : m < l_1.length
    · go_enter Try.func12, Try.ntmps12
      go_wp2_with fail
      refine (szNoteSS_any _ _ _ _ _ rd_0 hc_0 hm_0 (by omega)).mono ?_
      rintro e w' ⟨rfl, rfl⟩
      rw [HZ.out, HM.out]
      go_wp2_with (go_at_call 27; go_in)
      go_ret
      exact ⟨rfl, Below.refl _ _⟩
    · have hl_1 : l_1.length ≤ 1048576 := by omega
      go_enter Try.func12, Try.ntmps12
      go_wp2_with fail
      refine (szNoteSS_any _ _ _ _ _ rd_0 hc_0 hm_0 (by omega)).mono ?_
      rintro e w' ⟨rfl, rfl⟩
      rw [HZ.out, HM.out]
      go_wp2_with (go_at_call 27; go_in)
      refine (toNoteSS_any _ _ _ _ rd_0 (by omega) HNL.out).mono ?_
      rintro e w1 ⟨A1, c1, rfl, hc1, hm1, hr1, hb1⟩
      have s1 := hb1.size
      go_wp2_with fail
      refine (toNoteS_any _ _ _ _ (rd_1.below hb1 rfl) (by omega)).mono ?_
      rintro e w2 ⟨A2, c2, rfl, ho2, hc2, hm2, hn2, hr2, hb2⟩
      have s2 := hb2.size
      go_wp2_with fail
      refine (spec_Near _ _ _ _ _ _ _ (hr1.below hb2 rfl) hr2 (by omega) (by omega) HNL.out).mono ?_
      rintro e w3 ⟨rfl, hb3⟩
      have s3 := hb3.size
      have hb03 : Below w.heap.size w w3 := (hb1.trans (hb2.mono (by omega))).trans (hb3.mono (by omega))
      clear ho2 hr1 hr2
      go_wp2_with fail
      refine (toNoteSS_any _ _ _ _ (rd_0.below hb03 rfl) (by omega) HNL.out).mono ?_
      rintro e w4 ⟨A4, c4, rfl, hc4, hm4, hr4, hb4⟩
      have s4 := hb4.size
      go_wp2_with fail
      refine (toNoteS_any _ _ _ _ (rd_1.below (hb03.trans (hb4.mono (by omega))) rfl) (by omega)).mono ?_
      rintro e w5 ⟨A5, c5, rfl, ho5, hc5, hm5, hn5, hr5, hb5⟩
      have s5 := hb5.size
      go_wp2_with fail
      refine (impl_Near _ _ _ _ _ _ _ (hr4.below hb5 rfl) hr5 (by omega) (by omega) HNL.out).mono ?_
      rintro e w6 ⟨rfl, hb6⟩
      have s6 := hb6.size
      have hb06 : Below w.heap.size w w6 := ((hb03.trans (hb4.mono (by omega))).trans (hb5.mono (by omega))).trans (hb6.mono (by omega))
      go_wp2_with fail
      refine (toNoteSS_any _ _ _ _ (rd_0.below hb06 rfl) (by omega) HNL.out).mono ?_
      rintro e w7 ⟨A7, c7, rfl, hc7, hm7, hr7, hb7⟩
      have s7 := hb7.size
      go_wp2_with fail
      refine (eqNoteSS_same _ _ _ _ _ _ (hr4.upto (show Below w4.heap.size w4 w7 from ((hb5.mono (by omega)).trans (hb6.mono (by omega))).trans (hb7.mono (by omega))) (Nat.le_refl _)) hr7 (by omega) HNL.out).mono ?_
      rintro e w8 ⟨rfl, hb8⟩
      have s8 := hb8.size
      have hb08 : Below w.heap.size w w8 := (hb06.trans (hb7.mono (by omega))).trans (hb8.mono (by omega))
      go_wp2_with fail
      refine (toNoteS_any _ _ _ _ (rd_1.below hb08 rfl) (by omega)).mono ?_
      rintro e w9 ⟨A9, c9, rfl, ho9, hc9, hm9, hn9, hr9, hb9⟩
      have s9 := hb9.size
      go_wp2_with fail
      refine (eqNoteS_same _ _ _ _ l_1 _ (hr5.upto (show Below w5.heap.size w5 w9 from (((hb6.mono (by omega)).trans (hb7.mono (by omega))).trans (hb8.mono (by omega))).trans (hb9.mono (by omega))) (Nat.le_refl _)) hr9 (by omega)).mono ?_
      rintro e w10 ⟨rfl, hb10⟩
      go_wp2_with fail
      go_ret
      exact ⟨rfl, (hb08.trans (hb9.mono (by omega))).trans (hb10.mono (by omega))⟩
  · have HZ := Lib.hid (szZ_no hs)
    clear hs
    go_enter Try.func12, Try.ntmps12
    go_wp2_with fail
    refine (szNoteSS_any _ _ _ _ _ rd_0 hc_0 hm_0 (by omega)).mono ?_
    rintro e w' ⟨rfl, rfl⟩
    rw [HZ.out]
    go_wp2
    go_ret
    exact ⟨rfl, Below.refl _ _⟩
end Go.Proofs.Ytjfaodbjmanfnaa
