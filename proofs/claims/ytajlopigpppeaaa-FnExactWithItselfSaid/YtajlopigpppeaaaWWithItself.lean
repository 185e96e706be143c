/- The walk of the law on WithItself. -/
import Derived.Test.YtajlopigpppeaaaWith
import Derived.Test.YtajlopigpppeaaaNotes
namespace Go.Proofs.Ytajlopigpppeaaa
open Go.ChangeShapes Go.WideShapes Go.ChangeAt Go.RowKit
set_option linter.unusedVariables false
set_option maxHeartbeats 800000 in
theorem walk_FnExactWithItself (A_0 : Option Addr) (c_0 : Nat) (l_0 : List (Int × Int)) (a_1 : Int) (w : World) (q_0 : l_0.length ≤ c_0 ∧ c_0 ≤ maxLen ∧ RdN w A_0 l_0 ∧ ∀ i, i < l_0.length → Rng (tm l_0 i) ∧ Rng (pt l_0 i)) (q_1 : Rng a_1) :
    Calls Try.prog 4 #[.slice A_0 l_0.length c_0, .int .i64 a_1] w fun e w' => e = .returned (.bool true) ∧ Below w.heap.size w w' := by
  obtain ⟨hc_0, hm_0, rd_0, rg_0⟩ := q_0
  have hcm_0 := hm_0
  unfold maxLen at hcm_0
  by_cases hbig0 : 1048576 < l_0.length
  · go_enter Try.func4, Try.ntmps4
    go_wp2_with ((go_at_call 11; go_in))
    go_ret
    exact ⟨rfl, Below.refl _ _⟩
  · have hnb0 : ¬ 1048576 < l_0.length := hbig0
    have hl_0 : l_0.length ≤ 1048576 := by omega
    have hL2 : ((winR l_0 a_1)).length ≤ 1048576 := by have := winR_len l_0 a_1; omega
    go_enter Try.func4, Try.ntmps4
    go_wp2_with ((go_at_call 11; go_in))
    refine (toNoteS_any A_0 c_0 l_0 _ rd_0 (by omega)).mono ?_
    rintro e w1 ⟨A1, c1, rfl, ho1, hc1, hm1, hn1, hr1, hb1⟩
    have s1 := hb1.size
    go_wp2_with fail
    refine (spec_With _ _ _ _ _ hr1 (by omega) hn1).mono ?_
    rintro e w2 ⟨A2, c2, rfl, ho2, hc2, hm2, hn2, hr2, hb2⟩
    have s2 := hb2.size
    go_wp2_with fail
    refine (toNoteS_any A_0 c_0 l_0 _ (rd_0.upto (show Below w.heap.size w w2 from ((hb1.mono (by omega)).trans (hb2.mono (by omega)))) (Nat.le_refl _)) (by omega)).mono ?_
    rintro e w3 ⟨A3, c3, rfl, ho3, hc3, hm3, hn3, hr3, hb3⟩
    have s3 := hb3.size
    go_wp2_with fail
    refine (impl_With _ _ _ _ _ hr3 (by omega) hn3).mono ?_
    rintro e w4 ⟨A4, c4, rfl, ho4, hc4, hm4, hn4, hr4, hb4⟩
    have s4 := hb4.size
    go_wp2_with fail
    refine (eqNoteS_same _ _ _ _ (winR l_0 a_1) _ hr4 (hr2.upto (show Below w2.heap.size w2 w4 from ((hb3.mono (by omega)).trans (hb4.mono (by omega)))) (Nat.le_refl _)) (by omega)).mono ?_
    rintro e w5 ⟨rfl, hb5⟩
    have s5 := hb5.size
    go_wp2_with fail
    refine (toNoteS_any A_0 c_0 l_0 _ (rd_0.upto (show Below w.heap.size w w5 from (((((hb1.mono (by omega)).trans (hb2.mono (by omega))).trans (hb3.mono (by omega))).trans (hb4.mono (by omega))).trans (hb5.mono (by omega)))) (Nat.le_refl _)) (by omega)).mono ?_
    rintro e w6 ⟨A6, c6, rfl, ho6, hc6, hm6, hn6, hr6, hb6⟩
    have s6 := hb6.size
    go_wp2_with fail
    refine (eqNoteS_same _ _ _ _ l_0 _ (hr3.upto (show Below w3.heap.size w3 w6 from (((hb4.mono (by omega)).trans (hb5.mono (by omega))).trans (hb6.mono (by omega)))) (Nat.le_refl _)) hr6 (by omega)).mono ?_
    rintro e w7 ⟨rfl, hb7⟩
    have s7 := hb7.size
    go_wp2_with fail
    have hox8 := (ho3.upto (show Below w3.heap.size w3 w7 from ((((hb4.mono (by omega)).trans (hb5.mono (by omega))).trans (hb6.mono (by omega))).trans (hb7.mono (by omega)))) (Nat.le_refl _))
    have hoy8_0 := (ho4.upto (show Below w4.heap.size w4 w7 from (((hb5.mono (by omega)).trans (hb6.mono (by omega))).trans (hb7.mono (by omega)))) (Nat.le_refl _))
    refine (markNoteS_any _ _ _ _ _ (1) _ hox8 (by omega) (by omega) (by omega)).mono ?_
    rintro e w8 ⟨rfl, LM8, hLL8, hMM8, hoM8, hgM8⟩
    have hb8 := hox8.frame hgM8 (by omega)
    have s8 := hb8.size
    have hoK8_0 := keepRow_NN ho3 (by omega) hoy8_0 hgM8
    clear hgM8 hLL8 hMM8 hoM8
    go_wp2_with fail
    refine (eqNoteS_same _ _ _ _ (winR l_0 a_1) _ hoK8_0.rdA (hr2.upto (show Below w2.heap.size w2 w8 from ((((((hb3.mono (by omega)).trans (hb4.mono (by omega))).trans (hb5.mono (by omega))).trans (hb6.mono (by omega))).trans (hb7.mono (by omega))).trans (hb8.mono (by omega)))) (Nat.le_refl _)) (by omega)).mono ?_
    rintro e w9 ⟨rfl, hb9⟩
    have s9 := hb9.size
    go_wp2_with fail
    have hox10 := (hoK8_0.upto (show Below w8.heap.size w8 w9 from (hb9.mono (by omega))) (Nat.le_refl _))
    refine (markNoteS_any _ _ _ _ _ 1 _ hox10 (by omega) (by omega) (by omega)).mono ?_
    rintro e w10 ⟨rfl, LM10, hLL10, hMM10, hoM10, hgM10⟩
    have hb10 := hox10.frame hgM10 (by omega)
    have s10 := hb10.size
    have hLH := Lib.hid hLL10
    clear hgM10 hLL10
    go_wp2_with fail
    refine (heldNoteS_any _ _ _ _ 1 _ hoM10.rdA hLH.out hMM10 (by omega) (by omega) (by omega)).mono ?_
    rintro e w' ⟨rfl, rfl⟩
    go_wp2_with fail
    refine (toNoteS_any A_0 c_0 l_0 _ (rd_0.upto (show Below w.heap.size w w10 from ((((((((((hb1.mono (by omega)).trans (hb2.mono (by omega))).trans (hb3.mono (by omega))).trans (hb4.mono (by omega))).trans (hb5.mono (by omega))).trans (hb6.mono (by omega))).trans (hb7.mono (by omega))).trans (hb8.mono (by omega))).trans (hb9.mono (by omega))).trans (hb10.mono (by omega)))) (Nat.le_refl _)) (by omega)).mono ?_
    rintro e w11 ⟨A11, c11, rfl, ho11, hc11, hm11, hn11, hr11, hb11⟩
    have s11 := hb11.size
    go_wp2_with fail
    refine (impl_With _ _ _ _ _ hr11 (by omega) hn11).mono ?_
    rintro e w12 ⟨A12, c12, rfl, ho12, hc12, hm12, hn12, hr12, hb12⟩
    have s12 := hb12.size
    go_wp2_with fail
    refine (eqNoteS_same _ _ _ _ (winR l_0 a_1) _ hr12 (hr2.upto (show Below w2.heap.size w2 w12 from ((((((((((hb3.mono (by omega)).trans (hb4.mono (by omega))).trans (hb5.mono (by omega))).trans (hb6.mono (by omega))).trans (hb7.mono (by omega))).trans (hb8.mono (by omega))).trans (hb9.mono (by omega))).trans (hb10.mono (by omega))).trans (hb11.mono (by omega))).trans (hb12.mono (by omega)))) (Nat.le_refl _)) (by omega)).mono ?_
    rintro e w13 ⟨rfl, hb13⟩
    have s13 := hb13.size
    go_wp2_with fail
    refine (heldNoteS_any _ _ _ _ 1 _ (hoM10.rdA.upto (show Below w10.heap.size w10 w13 from (((hb11.mono (by omega)).trans (hb12.mono (by omega))).trans (hb13.mono (by omega)))) (Nat.le_refl _)) hLH.out hMM10 (by omega) (by omega) (by omega)).mono ?_
    rintro e w' ⟨rfl, rfl⟩
    go_wp2_with fail
    go_ret
    exact ⟨rfl, (show Below w.heap.size w w13 from (((((((((((((hb1.mono (by omega)).trans (hb2.mono (by omega))).trans (hb3.mono (by omega))).trans (hb4.mono (by omega))).trans (hb5.mono (by omega))).trans (hb6.mono (by omega))).trans (hb7.mono (by omega))).trans (hb8.mono (by omega))).trans (hb9.mono (by omega))).trans (hb10.mono (by omega))).trans (hb11.mono (by omega))).trans (hb12.mono (by omega))).trans (hb13.mono (by omega))))⟩
end Go.Proofs.Ytajlopigpppeaaa
