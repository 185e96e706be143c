/- The walk of the law on DiffTimes. -/
import Derived.Test.YtajlopigpppeaaaDifI
import Derived.Test.YtajlopigpppeaaaNotes
import Derived.Test.YtajlopigpppeaaaInts
namespace Go.Proofs.Ytajlopigpppeaaa
open Go.ChangeShapes Go.WideShapes Go.ChangeAt Go.RowKit
set_option linter.unusedVariables false
set_option maxHeartbeats 800000 in
theorem walk_FnExactDiffTimes (A_0 : Option Addr) (c_0 : Nat) (l_0 : List (Int × Int)) (A_1 : Option Addr) (c_1 : Nat) (l_1 : List (Int × Int)) (w : World) (q_0 : l_0.length ≤ c_0 ∧ c_0 ≤ maxLen ∧ RdN w A_0 l_0 ∧ ∀ i, i < l_0.length → Rng (tm l_0 i) ∧ Rng (pt l_0 i)) (q_1 : l_1.length ≤ c_1 ∧ c_1 ≤ maxLen ∧ RdN w A_1 l_1 ∧ ∀ i, i < l_1.length → Rng (tm l_1 i) ∧ Rng (pt l_1 i)) :
    Calls Try.prog 3 #[.slice A_0 l_0.length c_0, .slice A_1 l_1.length c_1] w fun e w' => e = .returned (.bool true) ∧ Below w.heap.size w w' := by
  obtain ⟨hc_0, hm_0, rd_0, rg_0⟩ := q_0
  have hcm_0 := hm_0
  unfold maxLen at hcm_0
  obtain ⟨hc_1, hm_1, rd_1, rg_1⟩ := q_1
  have hcm_1 := hm_1
  unfold maxLen at hcm_1
  by_cases hbig0 : 1048576 < l_0.length
  · go_enter Try.func3, Try.ntmps3
    go_wp2_with ((go_at_call 11; go_in))
    go_ret
    exact ⟨rfl, Below.refl _ _⟩
  · have hnb0 : ¬ 1048576 < l_0.length := hbig0
    by_cases hbig1 : 1048576 < l_0.length + l_1.length
    · go_enter Try.func3, Try.ntmps3
      go_wp2_with ((go_at_call 11; go_in))
      go_ret
      exact ⟨rfl, Below.refl _ _⟩
    · have hnb1 : ¬ 1048576 < l_0.length + l_1.length := hbig1
      have hl_0 : l_0.length ≤ 1048576 := by omega
      have hl_1 : l_1.length ≤ 1048576 := by omega
      have hL2 : ((difZ l_0 l_1)).length ≤ 1048576 := by have := difZ_len l_0 l_1; omega
      go_enter Try.func3, Try.ntmps3
      go_wp2_with ((go_at_call 11; go_in))
      refine (toNoteS_any A_0 c_0 l_0 _ rd_0 (by omega)).mono ?_
      rintro e w1 ⟨A1, c1, rfl, ho1, hc1, hm1, hn1, hr1, hb1⟩
      have s1 := hb1.size
      go_wp2_with ((go_at_call 11; go_in))
      refine (toNoteS_any A_1 c_1 l_1 _ (rd_1.upto (show Below w.heap.size w w1 from (hb1.mono (by omega))) (Nat.le_refl _)) (by omega)).mono ?_
      rintro e w2 ⟨A2, c2, rfl, ho2, hc2, hm2, hn2, hr2, hb2⟩
      have s2 := hb2.size
      go_wp2_with fail
      refine (spec_Dif _ _ _ _ _ _ _ (hr1.upto (show Below w1.heap.size w1 w2 from (hb2.mono (by omega))) (Nat.le_refl _)) hr2 (by omega) (by omega)).mono ?_
      rintro e w3 ⟨A3, c3, rfl, ho3, hc3, hm3, hn3, hr3, hb3⟩
      have s3 := hb3.size
      go_wp2_with fail
      refine (toNoteS_any A_0 c_0 l_0 _ (rd_0.upto (show Below w.heap.size w w3 from (((hb1.mono (by omega)).trans (hb2.mono (by omega))).trans (hb3.mono (by omega)))) (Nat.le_refl _)) (by omega)).mono ?_
      rintro e w4 ⟨A4, c4, rfl, ho4, hc4, hm4, hn4, hr4, hb4⟩
      have s4 := hb4.size
      go_wp2_with fail
      refine (toNoteS_any A_1 c_1 l_1 _ (rd_1.upto (show Below w.heap.size w w4 from ((((hb1.mono (by omega)).trans (hb2.mono (by omega))).trans (hb3.mono (by omega))).trans (hb4.mono (by omega)))) (Nat.le_refl _)) (by omega)).mono ?_
      rintro e w5 ⟨A5, c5, rfl, ho5, hc5, hm5, hn5, hr5, hb5⟩
      have s5 := hb5.size
      go_wp2_with fail
      refine (impl_Dif _ _ _ _ _ _ _ (hr4.upto (show Below w4.heap.size w4 w5 from (hb5.mono (by omega))) (Nat.le_refl _)) hr5 (by omega) (by omega) hn4 hn5).mono ?_
      rintro e w6 ⟨A6, c6, rfl, ho6, hc6, hm6, hn6, hr6, hb6⟩
      have s6 := hb6.size
      go_wp2_with fail
      refine (eqIntS_same _ _ _ _ (difZ l_0 l_1) _ hr6 (hr3.upto (show Below w3.heap.size w3 w6 from (((hb4.mono (by omega)).trans (hb5.mono (by omega))).trans (hb6.mono (by omega)))) (Nat.le_refl _)) (by omega)).mono ?_
      rintro e w7 ⟨rfl, hb7⟩
      have s7 := hb7.size
      go_wp2_with fail
      refine (toNoteS_any A_0 c_0 l_0 _ (rd_0.upto (show Below w.heap.size w w7 from (((((((hb1.mono (by omega)).trans (hb2.mono (by omega))).trans (hb3.mono (by omega))).trans (hb4.mono (by omega))).trans (hb5.mono (by omega))).trans (hb6.mono (by omega))).trans (hb7.mono (by omega)))) (Nat.le_refl _)) (by omega)).mono ?_
      rintro e w8 ⟨A8, c8, rfl, ho8, hc8, hm8, hn8, hr8, hb8⟩
      have s8 := hb8.size
      go_wp2_with fail
      refine (eqNoteS_same _ _ _ _ l_0 _ (hr4.upto (show Below w4.heap.size w4 w8 from ((((hb5.mono (by omega)).trans (hb6.mono (by omega))).trans (hb7.mono (by omega))).trans (hb8.mono (by omega)))) (Nat.le_refl _)) hr8 (by omega)).mono ?_
      rintro e w9 ⟨rfl, hb9⟩
      have s9 := hb9.size
      go_wp2_with fail
      refine (toNoteS_any A_1 c_1 l_1 _ (rd_1.upto (show Below w.heap.size w w9 from (((((((((hb1.mono (by omega)).trans (hb2.mono (by omega))).trans (hb3.mono (by omega))).trans (hb4.mono (by omega))).trans (hb5.mono (by omega))).trans (hb6.mono (by omega))).trans (hb7.mono (by omega))).trans (hb8.mono (by omega))).trans (hb9.mono (by omega)))) (Nat.le_refl _)) (by omega)).mono ?_
      rintro e w10 ⟨A10, c10, rfl, ho10, hc10, hm10, hn10, hr10, hb10⟩
      have s10 := hb10.size
      go_wp2_with fail
      refine (eqNoteS_same _ _ _ _ l_1 _ (hr5.upto (show Below w5.heap.size w5 w10 from (((((hb6.mono (by omega)).trans (hb7.mono (by omega))).trans (hb8.mono (by omega))).trans (hb9.mono (by omega))).trans (hb10.mono (by omega)))) (Nat.le_refl _)) hr10 (by omega)).mono ?_
      rintro e w11 ⟨rfl, hb11⟩
      have s11 := hb11.size
      go_wp2_with fail
      have hox12 := (ho4.upto (show Below w4.heap.size w4 w11 from (((((((hb5.mono (by omega)).trans (hb6.mono (by omega))).trans (hb7.mono (by omega))).trans (hb8.mono (by omega))).trans (hb9.mono (by omega))).trans (hb10.mono (by omega))).trans (hb11.mono (by omega)))) (Nat.le_refl _))
      have hoy12_0 := (ho5.upto (show Below w5.heap.size w5 w11 from ((((((hb6.mono (by omega)).trans (hb7.mono (by omega))).trans (hb8.mono (by omega))).trans (hb9.mono (by omega))).trans (hb10.mono (by omega))).trans (hb11.mono (by omega)))) (Nat.le_refl _))
      have hoy12_1 := (ho6.upto (show Below w6.heap.size w6 w11 from (((((hb7.mono (by omega)).trans (hb8.mono (by omega))).trans (hb9.mono (by omega))).trans (hb10.mono (by omega))).trans (hb11.mono (by omega)))) (Nat.le_refl _))
      refine (markNoteS_any _ _ _ _ _ (1) _ hox12 (by omega) (by omega) (by omega)).mono ?_
      rintro e w12 ⟨rfl, LM12, hLL12, hMM12, hoM12, hgM12⟩
      have hb12 := hox12.frame hgM12 (by omega)
      have s12 := hb12.size
      have hoK12_0 := keepRow_NN ho4 (by omega) hoy12_0 hgM12
      have hoK12_1 := keepRow_NI ho4 (by omega) hoy12_1 hgM12
      clear hgM12 hLL12 hMM12 hoM12
      go_wp2_with fail
      have hox13 := hoK12_0
      have hoy13_0 := hoK12_1
      refine (markNoteS_any _ _ _ _ _ (1 + 2 * (l_0.length : Int)) _ hox13 (by omega) (by omega) (by omega)).mono ?_
      rintro e w13 ⟨rfl, LM13, hLL13, hMM13, hoM13, hgM13⟩
      have hb13 := hox13.frame hgM13 (by omega)
      have s13 := hb13.size
      have hoK13_0 := keepRow_NI ho5 (by omega) hoy13_0 hgM13
      clear hgM13 hLL13 hMM13 hoM13
      go_wp2_with fail
      refine (eqIntS_same _ _ _ _ (difZ l_0 l_1) _ hoK13_0.rdA (hr3.upto (show Below w3.heap.size w3 w13 from ((((((((((hb4.mono (by omega)).trans (hb5.mono (by omega))).trans (hb6.mono (by omega))).trans (hb7.mono (by omega))).trans (hb8.mono (by omega))).trans (hb9.mono (by omega))).trans (hb10.mono (by omega))).trans (hb11.mono (by omega))).trans (hb12.mono (by omega))).trans (hb13.mono (by omega)))) (Nat.le_refl _)) (by omega)).mono ?_
      rintro e w14 ⟨rfl, hb14⟩
      have s14 := hb14.size
      go_wp2_with fail
      have hox15 := (hoK13_0.upto (show Below w13.heap.size w13 w14 from (hb14.mono (by omega))) (Nat.le_refl _))
      refine (markIntS_any _ _ _ _ _ 1 _ hox15 (by omega) (by omega) (by omega)).mono ?_
      rintro e w15 ⟨rfl, LM15, hLL15, hMM15, hoM15, hgM15⟩
      have hb15 := hox15.frame hgM15 (by omega)
      have s15 := hb15.size
      have hLH := Lib.hid hLL15
      clear hgM15 hLL15
      go_wp2_with fail
      refine (heldIntS_any _ _ _ _ 1 _ hoM15.rdA hLH.out hMM15 (by omega) (by omega) (by omega)).mono ?_
      rintro e w' ⟨rfl, rfl⟩
      go_wp2_with fail
      refine (toNoteS_any A_0 c_0 l_0 _ (rd_0.upto (show Below w.heap.size w w15 from (((((((((((((((hb1.mono (by omega)).trans (hb2.mono (by omega))).trans (hb3.mono (by omega))).trans (hb4.mono (by omega))).trans (hb5.mono (by omega))).trans (hb6.mono (by omega))).trans (hb7.mono (by omega))).trans (hb8.mono (by omega))).trans (hb9.mono (by omega))).trans (hb10.mono (by omega))).trans (hb11.mono (by omega))).trans (hb12.mono (by omega))).trans (hb13.mono (by omega))).trans (hb14.mono (by omega))).trans (hb15.mono (by omega)))) (Nat.le_refl _)) (by omega)).mono ?_
      rintro e w16 ⟨A16, c16, rfl, ho16, hc16, hm16, hn16, hr16, hb16⟩
      have s16 := hb16.size
      go_wp2_with fail
      refine (toNoteS_any A_1 c_1 l_1 _ (rd_1.upto (show Below w.heap.size w w16 from ((((((((((((((((hb1.mono (by omega)).trans (hb2.mono (by omega))).trans (hb3.mono (by omega))).trans (hb4.mono (by omega))).trans (hb5.mono (by omega))).trans (hb6.mono (by omega))).trans (hb7.mono (by omega))).trans (hb8.mono (by omega))).trans (hb9.mono (by omega))).trans (hb10.mono (by omega))).trans (hb11.mono (by omega))).trans (hb12.mono (by omega))).trans (hb13.mono (by omega))).trans (hb14.mono (by omega))).trans (hb15.mono (by omega))).trans (hb16.mono (by omega)))) (Nat.le_refl _)) (by omega)).mono ?_
      rintro e w17 ⟨A17, c17, rfl, ho17, hc17, hm17, hn17, hr17, hb17⟩
      have s17 := hb17.size
      go_wp2_with fail
      refine (impl_Dif _ _ _ _ _ _ _ (hr16.upto (show Below w16.heap.size w16 w17 from (hb17.mono (by omega))) (Nat.le_refl _)) hr17 (by omega) (by omega) hn16 hn17).mono ?_
      rintro e w18 ⟨A18, c18, rfl, ho18, hc18, hm18, hn18, hr18, hb18⟩
      have s18 := hb18.size
      go_wp2_with fail
      refine (eqIntS_same _ _ _ _ (difZ l_0 l_1) _ hr18 (hr3.upto (show Below w3.heap.size w3 w18 from (((((((((((((((hb4.mono (by omega)).trans (hb5.mono (by omega))).trans (hb6.mono (by omega))).trans (hb7.mono (by omega))).trans (hb8.mono (by omega))).trans (hb9.mono (by omega))).trans (hb10.mono (by omega))).trans (hb11.mono (by omega))).trans (hb12.mono (by omega))).trans (hb13.mono (by omega))).trans (hb14.mono (by omega))).trans (hb15.mono (by omega))).trans (hb16.mono (by omega))).trans (hb17.mono (by omega))).trans (hb18.mono (by omega)))) (Nat.le_refl _)) (by omega)).mono ?_
      rintro e w19 ⟨rfl, hb19⟩
      have s19 := hb19.size
      go_wp2_with fail
      refine (heldIntS_any _ _ _ _ 1 _ (hoM15.rdA.upto (show Below w15.heap.size w15 w19 from ((((hb16.mono (by omega)).trans (hb17.mono (by omega))).trans (hb18.mono (by omega))).trans (hb19.mono (by omega)))) (Nat.le_refl _)) hLH.out hMM15 (by omega) (by omega) (by omega)).mono ?_
      rintro e w' ⟨rfl, rfl⟩
      go_wp2_with fail
      go_ret
      exact ⟨rfl, (show Below w.heap.size w w19 from (((((((((((((((((((hb1.mono (by omega)).trans (hb2.mono (by omega))).trans (hb3.mono (by omega))).trans (hb4.mono (by omega))).trans (hb5.mono (by omega))).trans (hb6.mono (by omega))).trans (hb7.mono (by omega))).trans (hb8.mono (by omega))).trans (hb9.mono (by omega))).trans (hb10.mono (by omega))).trans (hb11.mono (by omega))).trans (hb12.mono (by omega))).trans (hb13.mono (by omega))).trans (hb14.mono (by omega))).trans (hb15.mono (by omega))).trans (hb16.mono (by omega))).trans (hb17.mono (by omega))).trans (hb18.mono (by omega))).trans (hb19.mono (by omega))))⟩
end Go.Proofs.Ytajlopigpppeaaa
