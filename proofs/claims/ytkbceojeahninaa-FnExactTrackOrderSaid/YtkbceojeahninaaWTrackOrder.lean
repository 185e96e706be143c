/- The walk of the law on TrackOrder. -/
import Derived.Test.YtkbceojeahninaaTrkS
import Derived.Test.YtkbceojeahninaaCyl
import Derived.Test.YtkbceojeahninaaInts
import Derived.Deep.RegionHeld3
namespace Go.Proofs.Ytkbceojeahninaa
open Go.ChangeShapes Go.WideShapes Go.ChangeAt Go.RowKit
set_option linter.unusedVariables false
set_option maxHeartbeats 1600000 in
theorem walk_FnExactTrackOrder (f_0 : Int) (f_1 : Int) (A_0 : Option Addr) (c_0 : Nat) (l_0 : List (Int × Int)) (w : World) (qf_0 : Rng f_0) (qf_1 : Rng f_1) (q_0 : l_0.length ≤ c_0 ∧ c_0 ≤ maxLen ∧ RdN w A_0 l_0 ∧ ∀ i, i < l_0.length → Rng (tm l_0 i) ∧ Rng (pt l_0 i)) :
    Calls Try.prog 7 #[.agg #[.int .i64 f_0, .int .i64 f_1, .slice A_0 l_0.length c_0]] w fun e w' => e = .returned (.bool true) ∧ Below w.heap.size w w' := by
  obtain ⟨hc_0, hm_0, rdw_0, rg_0⟩ := q_0
  have hcm_0 := hm_0
  unfold maxLen at hcm_0
  by_cases hbig : 1048576 < l_0.length
  · have hbx : l_0.length ≤ 9223372036854775807 := by omega
    obtain ⟨w1, hw1⟩ : ∃ W, W = w.alloc (.cells #[.int .i64 f_0, .int .i64 f_1, .slice A_0 l_0.length c_0] 68) := ⟨_, rfl⟩
    have hb1 : Below w.heap.size w w1 := by rw [hw1]; exact (Below.refl _ _).alloc (Nat.le_refl _) _
    have s1 : w.heap.size < w1.heap.size := by rw [hw1]; simp
    have kb1_0 : w1.cell? ⟨w.heap.size, 0, none⟩ = some (.int .i64 f_0) := by rw [hw1]; simp [go_sem]
    have kb1_1 : w1.cell? ⟨w.heap.size, 1, none⟩ = some (.int .i64 f_1) := by rw [hw1]; simp [go_sem]
    have kb1_2 : w1.cell? ⟨w.heap.size, 2, none⟩ = some (.slice A_0 l_0.length c_0) := by rw [hw1]; simp [go_sem]
    have rd_0 : RdN w1 A_0 l_0 := rdw_0.below hb1 rfl
    have hwh1 := Lib.hid hw1
    clear hw1
    go_enter Try.func7, Try.ntmps7
    go_wp2_with fail
    rw [← hwh1.out]
    refine (szCylinder_big f_0 f_1 A_0 c_0 l_0 w1 hbig hbx).mono ?_
    rintro e w2 ⟨rfl, hb2⟩
    go_wp2_with fail
    go_ret
    exact ⟨rfl, hb1.trans (hb2.mono (by omega))⟩
  · have hl_0 : l_0.length ≤ 1048576 := by omega
    have hL2 : (trkL f_0 f_1 l_0).length ≤ 1048576 := by have := trkL_len f_0 f_1 l_0; omega
    obtain ⟨w1, hw1⟩ : ∃ W, W = w.alloc (.cells #[.int .i64 f_0, .int .i64 f_1, .slice A_0 l_0.length c_0] 68) := ⟨_, rfl⟩
    have hb1 : Below w.heap.size w w1 := by rw [hw1]; exact (Below.refl _ _).alloc (Nat.le_refl _) _
    have s1 : w.heap.size < w1.heap.size := by rw [hw1]; simp
    have kb1_0 : w1.cell? ⟨w.heap.size, 0, none⟩ = some (.int .i64 f_0) := by rw [hw1]; simp [go_sem]
    have kb1_1 : w1.cell? ⟨w.heap.size, 1, none⟩ = some (.int .i64 f_1) := by rw [hw1]; simp [go_sem]
    have kb1_2 : w1.cell? ⟨w.heap.size, 2, none⟩ = some (.slice A_0 l_0.length c_0) := by rw [hw1]; simp [go_sem]
    have rd_0 : RdN w1 A_0 l_0 := rdw_0.below hb1 rfl
    have hwh1 := Lib.hid hw1
    clear hw1
    go_enter Try.func7, Try.ntmps7
    go_wp2_with fail
    rw [← hwh1.out]
    refine (szCylinder_any f_0 f_1 A_0 c_0 l_0 1048576 _ (by omega) (by omega)).mono ?_
    rintro e w2 ⟨rfl, hb2⟩
    have s2 := hb2.size
    have kx1 := ((show Below w1.heap.size w1 w2 from (hb2.mono (by omega))).cell (p := ⟨w.heap.size, 0, none⟩) (by show w.heap.size < _; omega)).trans kb1_0
    have kx2 := ((show Below w1.heap.size w1 w2 from (hb2.mono (by omega))).cell (p := ⟨w.heap.size, 1, none⟩) (by show w.heap.size < _; omega)).trans kb1_1
    have kx3 := ((show Below w1.heap.size w1 w2 from (hb2.mono (by omega))).cell (p := ⟨w.heap.size, 2, none⟩) (by show w.heap.size < _; omega)).trans kb1_2
    go_wp2_with fail
    refine (toCylinder_any f_0 f_1 A_0 c_0 l_0 _ (rd_0.upto (show Below w1.heap.size w1 w2 from (hb2.mono (by omega))) (Nat.le_refl _)) (by omega)).mono ?_
    rintro e w3 ⟨A3, c3, rfl, ho3, hc3, hm3, hn3, hr3, hb3⟩
    have s3 := hb3.size
    clear kx1 kx2 kx3
    go_wp2_with fail
    refine (spec_Trk _ _ _ _ _ _ hr3 (by omega)).mono ?_
    rintro e w4 ⟨A4, c4, rfl, ho4, hc4, hm4, hn4, hr4, hb4⟩
    have s4 := hb4.size
    have kx5 := ((show Below w1.heap.size w1 w4 from (((hb2.mono (by omega)).trans (hb3.mono (by omega))).trans (hb4.mono (by omega)))).cell (p := ⟨w.heap.size, 0, none⟩) (by show w.heap.size < _; omega)).trans kb1_0
    have kx6 := ((show Below w1.heap.size w1 w4 from (((hb2.mono (by omega)).trans (hb3.mono (by omega))).trans (hb4.mono (by omega)))).cell (p := ⟨w.heap.size, 1, none⟩) (by show w.heap.size < _; omega)).trans kb1_1
    have kx7 := ((show Below w1.heap.size w1 w4 from (((hb2.mono (by omega)).trans (hb3.mono (by omega))).trans (hb4.mono (by omega)))).cell (p := ⟨w.heap.size, 2, none⟩) (by show w.heap.size < _; omega)).trans kb1_2
    go_wp2_with fail
    refine (toCylinder_any f_0 f_1 A_0 c_0 l_0 _ (rd_0.upto (show Below w1.heap.size w1 w4 from (((hb2.mono (by omega)).trans (hb3.mono (by omega))).trans (hb4.mono (by omega)))) (Nat.le_refl _)) (by omega)).mono ?_
    rintro e w5 ⟨A5, c5, rfl, ho5, hc5, hm5, hn5, hr5, hb5⟩
    have s5 := hb5.size
    clear kx5 kx6 kx7
    obtain ⟨w6, hw6⟩ : ∃ W, W = w5.alloc (.cells #[.int .i64 f_0, .int .i64 f_1, .slice A5 l_0.length c5] 56) := ⟨_, rfl⟩
    have hb6 : Below w5.heap.size w5 w6 := by rw [hw6]; exact (Below.refl _ _).alloc (Nat.le_refl _) _
    have s6 : w5.heap.size < w6.heap.size := by rw [hw6]; simp
    have kb6_0 : w6.cell? ⟨w5.heap.size, 0, none⟩ = some (.int .i64 f_0) := by rw [hw6]; simp [go_sem]
    have kb6_1 : w6.cell? ⟨w5.heap.size, 1, none⟩ = some (.int .i64 f_1) := by rw [hw6]; simp [go_sem]
    have kb6_2 : w6.cell? ⟨w5.heap.size, 2, none⟩ = some (.slice A5 l_0.length c5) := by rw [hw6]; simp [go_sem]
    have hwh6 := Lib.hid hw6
    clear hw6
    go_wp2_with fail
    rw [← hwh6.out]
    refine (impl_Trk _ _ _ _ _ _ (hr5.upto (show Below w5.heap.size w5 w6 from (hb6.mono (by omega))) (Nat.le_refl _)) (by omega)).mono ?_
    rintro e w7 ⟨A7, c7, rfl, ho7, hc7, hm7, hn7, hr7, hb7⟩
    have s7 := hb7.size
    go_wp2_with fail
    refine (eqIntS_same _ _ _ _ (trkL f_0 f_1 l_0) _ hr7 (hr4.upto (show Below w4.heap.size w4 w7 from (((hb5.mono (by omega)).trans (hb6.mono (by omega))).trans (hb7.mono (by omega)))) (Nat.le_refl _)) (by omega)).mono ?_
    rintro e w8 ⟨rfl, hb8⟩
    have s8 := hb8.size
    have kx9 := ((show Below w6.heap.size w6 w8 from ((hb7.mono (by omega)).trans (hb8.mono (by omega)))).cell (p := ⟨w5.heap.size, 0, none⟩) (by show w5.heap.size < _; omega)).trans kb6_0
    have kx10 := ((show Below w6.heap.size w6 w8 from ((hb7.mono (by omega)).trans (hb8.mono (by omega)))).cell (p := ⟨w5.heap.size, 1, none⟩) (by show w5.heap.size < _; omega)).trans kb6_1
    have kx11 := ((show Below w6.heap.size w6 w8 from ((hb7.mono (by omega)).trans (hb8.mono (by omega)))).cell (p := ⟨w5.heap.size, 2, none⟩) (by show w5.heap.size < _; omega)).trans kb6_2
    have kx13 := ((show Below w1.heap.size w1 w8 from (((((((hb2.mono (by omega)).trans (hb3.mono (by omega))).trans (hb4.mono (by omega))).trans (hb5.mono (by omega))).trans (hb6.mono (by omega))).trans (hb7.mono (by omega))).trans (hb8.mono (by omega)))).cell (p := ⟨w.heap.size, 0, none⟩) (by show w.heap.size < _; omega)).trans kb1_0
    have kx14 := ((show Below w1.heap.size w1 w8 from (((((((hb2.mono (by omega)).trans (hb3.mono (by omega))).trans (hb4.mono (by omega))).trans (hb5.mono (by omega))).trans (hb6.mono (by omega))).trans (hb7.mono (by omega))).trans (hb8.mono (by omega)))).cell (p := ⟨w.heap.size, 1, none⟩) (by show w.heap.size < _; omega)).trans kb1_1
    have kx15 := ((show Below w1.heap.size w1 w8 from (((((((hb2.mono (by omega)).trans (hb3.mono (by omega))).trans (hb4.mono (by omega))).trans (hb5.mono (by omega))).trans (hb6.mono (by omega))).trans (hb7.mono (by omega))).trans (hb8.mono (by omega)))).cell (p := ⟨w.heap.size, 2, none⟩) (by show w.heap.size < _; omega)).trans kb1_2
    have lx8 : w5.heap.size < w8.heap.size := by omega
    have la8 : w.heap.size < w8.heap.size := by omega
    have rx8 := (hr5.upto (show Below w5.heap.size w5 w8 from (((hb6.mono (by omega)).trans (hb7.mono (by omega))).trans (hb8.mono (by omega)))) (Nat.le_refl _))
    have ra8 := (rd_0.upto (show Below w1.heap.size w1 w8 from (((((((hb2.mono (by omega)).trans (hb3.mono (by omega))).trans (hb4.mono (by omega))).trans (hb5.mono (by omega))).trans (hb6.mono (by omega))).trans (hb7.mono (by omega))).trans (hb8.mono (by omega)))) (Nat.le_refl _))
    go_wp2_with fail
    go_region_held3 (fun w' => w'.cell? ⟨w5.heap.size, 0, none⟩ = some (.int .i64 f_0) ∧ w'.cell? ⟨w5.heap.size, 1, none⟩ = some (.int .i64 f_1) ∧ w'.cell? ⟨w5.heap.size, 2, none⟩ = some (.slice A5 l_0.length c5) ∧ w'.cell? ⟨w.heap.size, 0, none⟩ = some (.int .i64 f_0) ∧ w'.cell? ⟨w.heap.size, 1, none⟩ = some (.int .i64 f_1) ∧ w'.cell? ⟨w.heap.size, 2, none⟩ = some (.slice A_0 l_0.length c_0) ∧ Below w8.heap.size w8 w') (first | exact held6_start kx9 kx10 kx11 kx13 kx14 kx15 rfl | exact held6_keep lx8 la8 (by assumption) hbz)
      (first | (go_at_call 45; refine (toCylinder_any f_0 f_1 A_0 c_0 l_0 _ (ra8.below (held6_bel (by assumption)) rfl) (by omega)).mono ?_; rintro e wz ⟨Az, cz, rfl, _, _, _, _, hrz, hbz⟩) | (go_at_call 47; refine (eqCylinder_same f_0 f_1 _ _ _ _ l_0 _ (rx8.below (held6_bel (by assumption)) rfl) (by assumption) (by omega)).mono ?_; rintro e wz ⟨rfl, hbz⟩))
    rename_i hH
    have hb9 : Below w8.heap.size w8 wz := held6_bel hH
    clear hH
    have s9 := hb9.size
    clear kx9 kx10 kx11 kx13 kx14 kx15
    have kx17 := ((show Below w6.heap.size w6 wz from (((hb7.mono (by omega)).trans (hb8.mono (by omega))).trans (hb9.mono (by omega)))).cell (p := ⟨w5.heap.size, 0, none⟩) (by show w5.heap.size < _; omega)).trans kb6_0
    have kx18 := ((show Below w6.heap.size w6 wz from (((hb7.mono (by omega)).trans (hb8.mono (by omega))).trans (hb9.mono (by omega)))).cell (p := ⟨w5.heap.size, 1, none⟩) (by show w5.heap.size < _; omega)).trans kb6_1
    have kx19 := ((show Below w6.heap.size w6 wz from (((hb7.mono (by omega)).trans (hb8.mono (by omega))).trans (hb9.mono (by omega)))).cell (p := ⟨w5.heap.size, 2, none⟩) (by show w5.heap.size < _; omega)).trans kb6_2
    go_wp2_with fail
    have hox10 := (ho5.upto (show Below w5.heap.size w5 wz from ((((hb6.mono (by omega)).trans (hb7.mono (by omega))).trans (hb8.mono (by omega))).trans (hb9.mono (by omega)))) (Nat.le_refl _))
    have hoy10_0 := (ho7.upto (show Below w7.heap.size w7 wz from ((hb8.mono (by omega)).trans (hb9.mono (by omega)))) (Nat.le_refl _))
    refine (markCylinder_any _ _ _ _ _ _ _ (1) _ hox10 (by omega) (by omega) (by omega)).mono ?_
    rintro e w10 ⟨rfl, LM10, hLL10, hMM10, hoM10, hgM10⟩
    have hb10 := hox10.frame hgM10 (by omega)
    have s10 := hb10.size
    have hoK10_0 := keepRow_NI ho5 (by omega) hoy10_0 hgM10
    clear hgM10 hLL10 hMM10 hoM10
    go_wp2_with fail
    refine (eqIntS_same _ _ _ _ (trkL f_0 f_1 l_0) _ hoK10_0.rdA (hr4.upto (show Below w4.heap.size w4 w10 from ((((((hb5.mono (by omega)).trans (hb6.mono (by omega))).trans (hb7.mono (by omega))).trans (hb8.mono (by omega))).trans (hb9.mono (by omega))).trans (hb10.mono (by omega)))) (Nat.le_refl _)) (by omega)).mono ?_
    rintro e w11 ⟨rfl, hb11⟩
    have s11 := hb11.size
    go_wp2_with fail
    have hox12 := (hoK10_0.upto (show Below w10.heap.size w10 w11 from (hb11.mono (by omega))) (Nat.le_refl _))
    refine (markIntS_any _ _ _ _ _ 1 _ hox12 (by omega) (by omega) (by omega)).mono ?_
    rintro e w12 ⟨rfl, LM12, hLL12, hMM12, hoM12, hgM12⟩
    have hb12 := hox12.frame hgM12 (by omega)
    have s12 := hb12.size
    have hLH := Lib.hid hLL12
    clear hgM12 hLL12
    go_wp2_with fail
    refine (heldIntS_any _ _ _ _ 1 _ hoM12.rdA hLH.out hMM12 (by omega) (by omega) (by omega)).mono ?_
    rintro e w' ⟨rfl, rfl⟩
    have kx21 := ((show Below w1.heap.size w1 w12 from (((((((((((hb2.mono (by omega)).trans (hb3.mono (by omega))).trans (hb4.mono (by omega))).trans (hb5.mono (by omega))).trans (hb6.mono (by omega))).trans (hb7.mono (by omega))).trans (hb8.mono (by omega))).trans (hb9.mono (by omega))).trans (hb10.mono (by omega))).trans (hb11.mono (by omega))).trans (hb12.mono (by omega)))).cell (p := ⟨w.heap.size, 0, none⟩) (by show w.heap.size < _; omega)).trans kb1_0
    have kx22 := ((show Below w1.heap.size w1 w12 from (((((((((((hb2.mono (by omega)).trans (hb3.mono (by omega))).trans (hb4.mono (by omega))).trans (hb5.mono (by omega))).trans (hb6.mono (by omega))).trans (hb7.mono (by omega))).trans (hb8.mono (by omega))).trans (hb9.mono (by omega))).trans (hb10.mono (by omega))).trans (hb11.mono (by omega))).trans (hb12.mono (by omega)))).cell (p := ⟨w.heap.size, 1, none⟩) (by show w.heap.size < _; omega)).trans kb1_1
    have kx23 := ((show Below w1.heap.size w1 w12 from (((((((((((hb2.mono (by omega)).trans (hb3.mono (by omega))).trans (hb4.mono (by omega))).trans (hb5.mono (by omega))).trans (hb6.mono (by omega))).trans (hb7.mono (by omega))).trans (hb8.mono (by omega))).trans (hb9.mono (by omega))).trans (hb10.mono (by omega))).trans (hb11.mono (by omega))).trans (hb12.mono (by omega)))).cell (p := ⟨w.heap.size, 2, none⟩) (by show w.heap.size < _; omega)).trans kb1_2
    go_wp2_with fail
    refine (toCylinder_any f_0 f_1 A_0 c_0 l_0 _ (rd_0.upto (show Below w1.heap.size w1 w12 from (((((((((((hb2.mono (by omega)).trans (hb3.mono (by omega))).trans (hb4.mono (by omega))).trans (hb5.mono (by omega))).trans (hb6.mono (by omega))).trans (hb7.mono (by omega))).trans (hb8.mono (by omega))).trans (hb9.mono (by omega))).trans (hb10.mono (by omega))).trans (hb11.mono (by omega))).trans (hb12.mono (by omega)))) (Nat.le_refl _)) (by omega)).mono ?_
    rintro e w13 ⟨A13, c13, rfl, ho13, hc13, hm13, hn13, hr13, hb13⟩
    have s13 := hb13.size
    clear kx21 kx22 kx23
    go_wp2_with fail
    refine (impl_Trk _ _ _ _ _ _ hr13 (by omega)).mono ?_
    rintro e w14 ⟨A14, c14, rfl, ho14, hc14, hm14, hn14, hr14, hb14⟩
    have s14 := hb14.size
    go_wp2_with fail
    refine (eqIntS_same _ _ _ _ (trkL f_0 f_1 l_0) _ hr14 (hr4.upto (show Below w4.heap.size w4 w14 from ((((((((((hb5.mono (by omega)).trans (hb6.mono (by omega))).trans (hb7.mono (by omega))).trans (hb8.mono (by omega))).trans (hb9.mono (by omega))).trans (hb10.mono (by omega))).trans (hb11.mono (by omega))).trans (hb12.mono (by omega))).trans (hb13.mono (by omega))).trans (hb14.mono (by omega)))) (Nat.le_refl _)) (by omega)).mono ?_
    rintro e w15 ⟨rfl, hb15⟩
    have s15 := hb15.size
    go_wp2_with fail
    refine (heldIntS_any _ _ _ _ 1 _ (hoM12.rdA.upto (show Below w12.heap.size w12 w15 from (((hb13.mono (by omega)).trans (hb14.mono (by omega))).trans (hb15.mono (by omega)))) (Nat.le_refl _)) hLH.out hMM12 (by omega) (by omega) (by omega)).mono ?_
    rintro e w' ⟨rfl, rfl⟩
    go_wp2_with fail
    go_ret
    exact ⟨rfl, (show Below w.heap.size w w15 from (((((((((((((((hb1.mono (by omega)).trans (hb2.mono (by omega))).trans (hb3.mono (by omega))).trans (hb4.mono (by omega))).trans (hb5.mono (by omega))).trans (hb6.mono (by omega))).trans (hb7.mono (by omega))).trans (hb8.mono (by omega))).trans (hb9.mono (by omega))).trans (hb10.mono (by omega))).trans (hb11.mono (by omega))).trans (hb12.mono (by omega))).trans (hb13.mono (by omega))).trans (hb14.mono (by omega))).trans (hb15.mono (by omega))))⟩
end Go.Proofs.Ytkbceojeahninaa
