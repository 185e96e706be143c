/- The walk of the law on BestRound. -/
import Derived.Test.YtajlopigpppeaaaBrn
import Derived.Test.YtajlopigpppeaaaNotes
namespace Go.Proofs.Ytajlopigpppeaaa
open Go.ChangeShapes Go.WideShapes Go.ChangeAt Go.RowKit
set_option linter.unusedVariables false
set_option maxHeartbeats 800000 in
theorem walk_FnExactBestRound (A_0 : Option Addr) (c_0 : Nat) (l_0 : List (Int × Int)) (a_1 : Int) (w : World) (q_0 : l_0.length ≤ c_0 ∧ c_0 ≤ maxLen ∧ RdN w A_0 l_0 ∧ ∀ i, i < l_0.length → Rng (tm l_0 i) ∧ Rng (pt l_0 i)) (q_1 : Rng a_1) :
    Calls Try.prog 8 #[.slice A_0 l_0.length c_0, .int .i64 a_1] w fun e w' => e = .returned (.bool true) ∧ Below w.heap.size w w' := by
  obtain ⟨hc_0, hm_0, rd_0, rg_0⟩ := q_0
  have hcm_0 := hm_0
  unfold maxLen at hcm_0
  by_cases hbig0 : 1048576 < l_0.length
  · go_enter Try.func8, Try.ntmps8
    go_wp2_with ((go_at_call 11; go_in))
    go_ret
    exact ⟨rfl, Below.refl _ _⟩
  · have hnb0 : ¬ 1048576 < l_0.length := hbig0
    have hl_0 : l_0.length ≤ 1048576 := by omega
    go_enter Try.func8, Try.ntmps8
    go_wp2_with ((go_at_call 11; go_in))
    refine (toNoteS_any A_0 c_0 l_0 _ rd_0 (by omega)).mono ?_
    rintro e w1 ⟨A1, c1, rfl, ho1, hc1, hm1, hn1, hr1, hb1⟩
    have s1 := hb1.size
    go_wp2_with fail
    refine (spec_Brn _ _ _ _ _ hr1 (by omega) hn1).mono ?_
    rintro e w2 ⟨rfl, hb2⟩
    have s2 := hb2.size
    go_wp2_with fail
    refine (toNoteS_any A_0 c_0 l_0 _ (rd_0.upto (show Below w.heap.size w w2 from ((hb1.mono (by omega)).trans (hb2.mono (by omega)))) (Nat.le_refl _)) (by omega)).mono ?_
    rintro e w3 ⟨A3, c3, rfl, ho3, hc3, hm3, hn3, hr3, hb3⟩
    have s3 := hb3.size
    go_wp2_with fail
    refine (impl_Brn _ _ _ _ _ hr3 (by omega) hn3).mono ?_
    rintro e w4 ⟨rfl, hb4⟩
    have s4 := hb4.size
    go_wp2_with fail
    refine (toNoteS_any A_0 c_0 l_0 _ (rd_0.upto (show Below w.heap.size w w4 from ((((hb1.mono (by omega)).trans (hb2.mono (by omega))).trans (hb3.mono (by omega))).trans (hb4.mono (by omega)))) (Nat.le_refl _)) (by omega)).mono ?_
    rintro e w5 ⟨A5, c5, rfl, ho5, hc5, hm5, hn5, hr5, hb5⟩
    have s5 := hb5.size
    go_wp2_with fail
    refine (eqNoteS_same _ _ _ _ l_0 _ (hr3.upto (show Below w3.heap.size w3 w5 from ((hb4.mono (by omega)).trans (hb5.mono (by omega)))) (Nat.le_refl _)) hr5 (by omega)).mono ?_
    rintro e w6 ⟨rfl, hb6⟩
    have s6 := hb6.size
    go_wp2_with fail
    go_ret
    exact ⟨rfl, (show Below w.heap.size w w6 from ((((((hb1.mono (by omega)).trans (hb2.mono (by omega))).trans (hb3.mono (by omega))).trans (hb4.mono (by omega))).trans (hb5.mono (by omega))).trans (hb6.mono (by omega))))⟩
end Go.Proofs.Ytajlopigpppeaaa
