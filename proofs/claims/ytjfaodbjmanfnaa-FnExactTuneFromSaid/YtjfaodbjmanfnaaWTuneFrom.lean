/- The walk of the law on TuneFrom. -/
import Derived.Test.YtjfaodbjmanfnaaFrom
import Derived.Test.YtjfaodbjmanfnaaNotes
namespace Go.Proofs.Ytjfaodbjmanfnaa
open Go.ChangeShapes Go.WideShapes Go.ChangeAt Go.RowKit
set_option linter.unusedVariables false
set_option maxHeartbeats 800000 in
theorem walk_FnExactTuneFrom (a_0 : ByteArray) (a_1 : Int) (w : World) (q_0 : a_0.size ≤ maxLen) (q_1 : Rng a_1) :
    Calls Try.prog 6 #[.string a_0, .int .i64 a_1] w fun e w' => e = .returned (.bool true) ∧ Below w.heap.size w w' := by
  have hs_0 := q_0
  unfold maxLen at hs_0
  by_cases hbig0 : 1048576 < a_0.size
  · go_enter Try.func6, Try.ntmps6
    go_wp2
    go_ret
    exact ⟨rfl, Below.refl _ _⟩
  · have hnb0 : ¬ 1048576 < a_0.size := hbig0
    have hL2 : ((froL a_0 a_1)).length ≤ 1048576 := by have := froL_len a_0 a_1; omega
    go_enter Try.func6, Try.ntmps6
    go_wp2_with fail
    refine (spec_From _ _ _ q_0).mono ?_
    rintro e w1 ⟨A1, c1, rfl, ho1, hc1, hm1, hn1, hr1, hb1⟩
    have s1 := hb1.size
    go_wp2_with fail
    refine (impl_From _ _ _ q_0).mono ?_
    rintro e w2 ⟨A2, c2, rfl, ho2, hc2, hm2, hn2, hr2, hb2⟩
    have s2 := hb2.size
    go_wp2_with fail
    refine (eqNoteS_same _ _ _ _ (froL a_0 a_1) _ hr2 (hr1.upto (show Below w1.heap.size w1 w2 from (hb2.mono (by omega))) (Nat.le_refl _)) (by omega)).mono ?_
    rintro e w3 ⟨rfl, hb3⟩
    have s3 := hb3.size
    go_wp2_with fail
    have hox4 := (ho2.upto (show Below w2.heap.size w2 w3 from (hb3.mono (by omega))) (Nat.le_refl _))
    refine (markNoteS_any _ _ _ _ _ 1 _ hox4 (by omega) (by omega) (by omega)).mono ?_
    rintro e w4 ⟨rfl, LM4, hLL4, hMM4, hoM4, hgM4⟩
    have hb4 := hox4.frame hgM4 (by omega)
    have s4 := hb4.size
    have hLH := Lib.hid hLL4
    clear hgM4 hLL4
    go_wp2_with fail
    refine (heldNoteS_any _ _ _ _ 1 _ hoM4.rdA hLH.out hMM4 (by omega) (by omega) (by omega)).mono ?_
    rintro e w' ⟨rfl, rfl⟩
    go_wp2_with fail
    refine (impl_From _ _ _ q_0).mono ?_
    rintro e w5 ⟨A5, c5, rfl, ho5, hc5, hm5, hn5, hr5, hb5⟩
    have s5 := hb5.size
    go_wp2_with fail
    refine (eqNoteS_same _ _ _ _ (froL a_0 a_1) _ hr5 (hr1.upto (show Below w1.heap.size w1 w5 from ((((hb2.mono (by omega)).trans (hb3.mono (by omega))).trans (hb4.mono (by omega))).trans (hb5.mono (by omega)))) (Nat.le_refl _)) (by omega)).mono ?_
    rintro e w6 ⟨rfl, hb6⟩
    have s6 := hb6.size
    go_wp2_with fail
    refine (heldNoteS_any _ _ _ _ 1 _ (hoM4.rdA.upto (show Below w4.heap.size w4 w6 from ((hb5.mono (by omega)).trans (hb6.mono (by omega)))) (Nat.le_refl _)) hLH.out hMM4 (by omega) (by omega) (by omega)).mono ?_
    rintro e w' ⟨rfl, rfl⟩
    go_wp2_with fail
    go_ret
    exact ⟨rfl, (show Below w.heap.size w w6 from ((((((hb1.mono (by omega)).trans (hb2.mono (by omega))).trans (hb3.mono (by omega))).trans (hb4.mono (by omega))).trans (hb5.mono (by omega))).trans (hb6.mono (by omega))))⟩
end Go.Proofs.Ytjfaodbjmanfnaa
