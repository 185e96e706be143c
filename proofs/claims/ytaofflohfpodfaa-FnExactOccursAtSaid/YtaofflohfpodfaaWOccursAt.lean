/- The walk of the law on OccursAt. -/
import Derived.Test.YtaofflohfpodfaaOccI
import Derived.Test.YtaofflohfpodfaaNotes
namespace Go.Proofs.Ytaofflohfpodfaa
open Go.ChangeShapes Go.WideShapes Go.ChangeAt Go.RowKit
set_option linter.unusedVariables false
set_option maxHeartbeats 800000 in
theorem walk_FnExactOccursAt (A_0 : Option Addr) (c_0 : Nat) (l_0 : List (Int × Int)) (A_1 : Option Addr) (c_1 : Nat) (l_1 : List (Int × Int)) (a_2 : Int) (w : World) (q_0 : l_0.length ≤ c_0 ∧ c_0 ≤ maxLen ∧ RdN w A_0 l_0 ∧ ∀ i, i < l_0.length → Rng (tm l_0 i) ∧ Rng (pt l_0 i)) (q_1 : l_1.length ≤ c_1 ∧ c_1 ≤ maxLen ∧ RdN w A_1 l_1 ∧ ∀ i, i < l_1.length → Rng (tm l_1 i) ∧ Rng (pt l_1 i)) (q_2 : Rng a_2) :
    Calls Try.prog 5 #[.slice A_0 l_0.length c_0, .slice A_1 l_1.length c_1, .int .i64 a_2] w fun e w' => e = .returned (.bool true) ∧ Below w.heap.size w w' := by
  obtain ⟨hc_0, hm_0, rd_0, rg_0⟩ := q_0
  have hcm_0 := hm_0
  unfold maxLen at hcm_0
  obtain ⟨hc_1, hm_1, rd_1, rg_1⟩ := q_1
  have hcm_1 := hm_1
  unfold maxLen at hcm_1
  by_cases hbig0 : 1048576 < l_0.length
  · go_enter Try.func5, Try.ntmps5
    go_wp2_with ((go_at_call 15; go_in))
    go_ret
    exact ⟨rfl, Below.refl _ _⟩
  · have hnb0 : ¬ 1048576 < l_0.length := hbig0
    by_cases hbig1 : 1048576 < l_0.length + l_1.length
    · go_enter Try.func5, Try.ntmps5
      go_wp2_with ((go_at_call 15; go_in))
      go_ret
      exact ⟨rfl, Below.refl _ _⟩
    · have hnb1 : ¬ 1048576 < l_0.length + l_1.length := hbig1
      have hl_0 : l_0.length ≤ 1048576 := by omega
      have hl_1 : l_1.length ≤ 1048576 := by omega
      go_enter Try.func5, Try.ntmps5
      go_wp2_with ((go_at_call 15; go_in))
      refine (toNoteS_any A_0 c_0 l_0 _ rd_0 (by omega)).mono ?_
      rintro e w1 ⟨A1, c1, rfl, ho1, hc1, hm1, hn1, hr1, hb1⟩
      have s1 := hb1.size
      go_wp2_with ((go_at_call 15; go_in))
      refine (toNoteS_any A_1 c_1 l_1 _ (rd_1.upto (show Below w.heap.size w w1 from (hb1.mono (by omega))) (Nat.le_refl _)) (by omega)).mono ?_
      rintro e w2 ⟨A2, c2, rfl, ho2, hc2, hm2, hn2, hr2, hb2⟩
      have s2 := hb2.size
      go_wp2_with fail
      refine (spec_Occ _ _ _ _ _ _ _ _ (hr1.upto (show Below w1.heap.size w1 w2 from (hb2.mono (by omega))) (Nat.le_refl _)) hr2 (by omega) (by omega)).mono ?_
      rintro e w3 ⟨rfl, hb3⟩
      have s3 := hb3.size
      go_wp2_with fail
      refine (toNoteS_any A_0 c_0 l_0 _ (rd_0.upto (show Below w.heap.size w w3 from (((hb1.mono (by omega)).trans (hb2.mono (by omega))).trans (hb3.mono (by omega)))) (Nat.le_refl _)) (by omega)).mono ?_
      rintro e w4 ⟨A4, c4, rfl, ho4, hc4, hm4, hn4, hr4, hb4⟩
      have s4 := hb4.size
      go_wp2_with fail
      refine (toNoteS_any A_1 c_1 l_1 _ (rd_1.upto (show Below w.heap.size w w4 from ((((hb1.mono (by omega)).trans (hb2.mono (by omega))).trans (hb3.mono (by omega))).trans (hb4.mono (by omega)))) (Nat.le_refl _)) (by omega)).mono ?_
      rintro e w5 ⟨A5, c5, rfl, ho5, hc5, hm5, hn5, hr5, hb5⟩
      have s5 := hb5.size
      go_wp2_with fail
      refine (impl_Occ _ _ _ _ _ _ _ _ (hr4.upto (show Below w4.heap.size w4 w5 from (hb5.mono (by omega))) (Nat.le_refl _)) hr5 (by omega) (by omega)).mono ?_
      rintro e w6 ⟨rfl, hb6⟩
      have s6 := hb6.size
      go_wp2_with fail
      refine (toNoteS_any A_0 c_0 l_0 _ (rd_0.upto (show Below w.heap.size w w6 from ((((((hb1.mono (by omega)).trans (hb2.mono (by omega))).trans (hb3.mono (by omega))).trans (hb4.mono (by omega))).trans (hb5.mono (by omega))).trans (hb6.mono (by omega)))) (Nat.le_refl _)) (by omega)).mono ?_
      rintro e w7 ⟨A7, c7, rfl, ho7, hc7, hm7, hn7, hr7, hb7⟩
      have s7 := hb7.size
      go_wp2_with fail
      refine (eqNoteS_same _ _ _ _ l_0 _ (hr4.upto (show Below w4.heap.size w4 w7 from (((hb5.mono (by omega)).trans (hb6.mono (by omega))).trans (hb7.mono (by omega)))) (Nat.le_refl _)) hr7 (by omega)).mono ?_
      rintro e w8 ⟨rfl, hb8⟩
      have s8 := hb8.size
      go_wp2_with fail
      refine (toNoteS_any A_1 c_1 l_1 _ (rd_1.upto (show Below w.heap.size w w8 from ((((((((hb1.mono (by omega)).trans (hb2.mono (by omega))).trans (hb3.mono (by omega))).trans (hb4.mono (by omega))).trans (hb5.mono (by omega))).trans (hb6.mono (by omega))).trans (hb7.mono (by omega))).trans (hb8.mono (by omega)))) (Nat.le_refl _)) (by omega)).mono ?_
      rintro e w9 ⟨A9, c9, rfl, ho9, hc9, hm9, hn9, hr9, hb9⟩
      have s9 := hb9.size
      go_wp2_with fail
      refine (eqNoteS_same _ _ _ _ l_1 _ (hr5.upto (show Below w5.heap.size w5 w9 from ((((hb6.mono (by omega)).trans (hb7.mono (by omega))).trans (hb8.mono (by omega))).trans (hb9.mono (by omega)))) (Nat.le_refl _)) hr9 (by omega)).mono ?_
      rintro e w10 ⟨rfl, hb10⟩
      have s10 := hb10.size
      go_wp2_with fail
      go_ret
      exact ⟨rfl, (show Below w.heap.size w w10 from ((((((((((hb1.mono (by omega)).trans (hb2.mono (by omega))).trans (hb3.mono (by omega))).trans (hb4.mono (by omega))).trans (hb5.mono (by omega))).trans (hb6.mono (by omega))).trans (hb7.mono (by omega))).trans (hb8.mono (by omega))).trans (hb9.mono (by omega))).trans (hb10.mono (by omega))))⟩
end Go.Proofs.Ytaofflohfpodfaa
