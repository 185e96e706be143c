/- The walk of the law on WayCost. -/
import Derived.Test.YthgeijgojdmidaaWayS
import Derived.Test.YthgeijgojdmidaaCyl
import Derived.Test.YthgeijgojdmidaaInts
import Derived.Deep.RegionHeld3
namespace Go.Proofs.Ythgeijgojdmidaa
open Go.ChangeShapes Go.WideShapes Go.ChangeAt Go.RowKit
set_option linter.unusedVariables false
set_option maxHeartbeats 1600000 in
theorem walk_FnExactWayCost (f_0 : Int) (f_1 : Int) (A_0 : Option Addr) (c_0 : Nat) (l_0 : List (Int × Int)) (A_1 : Option Addr) (c_1 : Nat) (l_1 : List Int) (w : World) (qf_0 : Rng f_0) (qf_1 : Rng f_1) (q_0 : l_0.length ≤ c_0 ∧ c_0 ≤ maxLen ∧ RdN w A_0 l_0 ∧ ∀ i, i < l_0.length → Rng (tm l_0 i) ∧ Rng (pt l_0 i)) (q_1 : l_1.length ≤ c_1 ∧ c_1 ≤ maxLen ∧ RdI w A_1 l_1 ∧ ∀ i, i < l_1.length → Rng (gt l_1 i)) :
    Calls Try.prog 3 #[.agg #[.int .i64 f_0, .int .i64 f_1, .slice A_0 l_0.length c_0], .slice A_1 l_1.length c_1] w fun e w' => e = .returned (.bool true) ∧ Below w.heap.size w w' := by
  obtain ⟨hc_0, hm_0, rdw_0, rg_0⟩ := q_0
  have hcm_0 := hm_0
  unfold maxLen at hcm_0
  obtain ⟨hc_1, hm_1, rdw_1, rg_1⟩ := q_1
  have hcm_1 := hm_1
  unfold maxLen at hcm_1
  by_cases hbl1 : 1048576 < l_1.length
  · go_enter Try.func3, Try.ntmps3
    go_wp2
    go_ret
    exact ⟨rfl, (Below.refl _ _).alloc (Nat.le_refl _) _⟩
  · have hnl1 : ¬ (1048576 : Int) < (l_1.length : Int) := by omega
    by_cases hbig : 1048576 < l_0.length
    · have hbx : l_0.length ≤ 9223372036854775807 := by omega
      obtain ⟨w1, hw1⟩ : ∃ W, W = w.alloc (.cells #[.int .i64 f_0, .int .i64 f_1, .slice A_0 l_0.length c_0] 24) := ⟨_, rfl⟩
      have hb1 : Below w.heap.size w w1 := by rw [hw1]; exact (Below.refl _ _).alloc (Nat.le_refl _) _
      have s1 : w.heap.size < w1.heap.size := by rw [hw1]; simp
      have kb1_0 : w1.cell? ⟨w.heap.size, 0, none⟩ = some (.int .i64 f_0) := by rw [hw1]; simp [go_sem]
      have kb1_1 : w1.cell? ⟨w.heap.size, 1, none⟩ = some (.int .i64 f_1) := by rw [hw1]; simp [go_sem]
      have kb1_2 : w1.cell? ⟨w.heap.size, 2, none⟩ = some (.slice A_0 l_0.length c_0) := by rw [hw1]; simp [go_sem]
      have rd_0 : RdN w1 A_0 l_0 := rdw_0.below hb1 rfl
      have rd_1 : RdI w1 A_1 l_1 := rdw_1.below hb1 rfl
      have hwh1 := Lib.hid hw1
      clear hw1
      go_enter Try.func3, Try.ntmps3
      go_wp2_with fail
      rw [← hwh1.out]
      refine (szCylinder_big f_0 f_1 A_0 c_0 l_0 w1 hbig hbx).mono ?_
      rintro e w2 ⟨rfl, hb2⟩
      go_wp2_with fail
      go_ret
      exact ⟨rfl, hb1.trans (hb2.mono (by omega))⟩
    · have hl_0 : l_0.length ≤ 1048576 := by omega
      have hl_1 : l_1.length ≤ 1048576 := by omega
      obtain ⟨w1, hw1⟩ : ∃ W, W = w.alloc (.cells #[.int .i64 f_0, .int .i64 f_1, .slice A_0 l_0.length c_0] 24) := ⟨_, rfl⟩
      have hb1 : Below w.heap.size w w1 := by rw [hw1]; exact (Below.refl _ _).alloc (Nat.le_refl _) _
      have s1 : w.heap.size < w1.heap.size := by rw [hw1]; simp
      have kb1_0 : w1.cell? ⟨w.heap.size, 0, none⟩ = some (.int .i64 f_0) := by rw [hw1]; simp [go_sem]
      have kb1_1 : w1.cell? ⟨w.heap.size, 1, none⟩ = some (.int .i64 f_1) := by rw [hw1]; simp [go_sem]
      have kb1_2 : w1.cell? ⟨w.heap.size, 2, none⟩ = some (.slice A_0 l_0.length c_0) := by rw [hw1]; simp [go_sem]
      have rd_0 : RdN w1 A_0 l_0 := rdw_0.below hb1 rfl
      have rd_1 : RdI w1 A_1 l_1 := rdw_1.below hb1 rfl
      have hwh1 := Lib.hid hw1
      clear hw1
      go_enter Try.func3, Try.ntmps3
      go_wp2_with fail
      rw [← hwh1.out]
      refine (szCylinder_any f_0 f_1 A_0 c_0 l_0 1048576 _ (by omega) (by omega)).mono ?_
      rintro e w2 ⟨rfl, hb2⟩
      have s2 := hb2.size
      have kx1 := ((show Below w1.heap.size w1 w2 from (hb2.mono (by omega))).cell (p := ⟨w.heap.size, 0, none⟩) (by show w.heap.size < _; omega)).trans kb1_0
      have kx2 := ((show Below w1.heap.size w1 w2 from (hb2.mono (by omega))).cell (p := ⟨w.heap.size, 1, none⟩) (by show w.heap.size < _; omega)).trans kb1_1
      have kx3 := ((show Below w1.heap.size w1 w2 from (hb2.mono (by omega))).cell (p := ⟨w.heap.size, 2, none⟩) (by show w.heap.size < _; omega)).trans kb1_2
      go_wp2_with fail
      refine (toCylinder_any f_0 f_1 A_0 c_0 l_0 _ (rd_0.upto (show Below w1.heap.size w1 w2 from (hb2.mono (by omega))) (Nat.le_refl _)) (by omega)).mono ?_
      rintro e w3 ⟨A3, c3, rfl, ho3, hc3, hm3, hn3, hr3, hb3⟩
      have s3 := hb3.size
      clear kx1 kx2 kx3
      go_wp2_with fail
      refine (toIntS_any A_1 c_1 l_1 _ (rd_1.upto (show Below w1.heap.size w1 w3 from ((hb2.mono (by omega)).trans (hb3.mono (by omega)))) (Nat.le_refl _)) (by omega)).mono ?_
      rintro e w4 ⟨A4, c4, rfl, ho4, hc4, hm4, hn4, hr4, hb4⟩
      have s4 := hb4.size
      go_wp2_with fail
      refine (spec_Way _ _ _ _ _ _ _ _ _ (hr3.upto (show Below w3.heap.size w3 w4 from (hb4.mono (by omega))) (Nat.le_refl _)) hr4 (by omega) (by omega)).mono ?_
      rintro e w5 ⟨rfl, hb5⟩
      have s5 := hb5.size
      have kx5 := ((show Below w1.heap.size w1 w5 from ((((hb2.mono (by omega)).trans (hb3.mono (by omega))).trans (hb4.mono (by omega))).trans (hb5.mono (by omega)))).cell (p := ⟨w.heap.size, 0, none⟩) (by show w.heap.size < _; omega)).trans kb1_0
      have kx6 := ((show Below w1.heap.size w1 w5 from ((((hb2.mono (by omega)).trans (hb3.mono (by omega))).trans (hb4.mono (by omega))).trans (hb5.mono (by omega)))).cell (p := ⟨w.heap.size, 1, none⟩) (by show w.heap.size < _; omega)).trans kb1_1
      have kx7 := ((show Below w1.heap.size w1 w5 from ((((hb2.mono (by omega)).trans (hb3.mono (by omega))).trans (hb4.mono (by omega))).trans (hb5.mono (by omega)))).cell (p := ⟨w.heap.size, 2, none⟩) (by show w.heap.size < _; omega)).trans kb1_2
      go_wp2_with fail
      refine (toCylinder_any f_0 f_1 A_0 c_0 l_0 _ (rd_0.upto (show Below w1.heap.size w1 w5 from ((((hb2.mono (by omega)).trans (hb3.mono (by omega))).trans (hb4.mono (by omega))).trans (hb5.mono (by omega)))) (Nat.le_refl _)) (by omega)).mono ?_
      rintro e w6 ⟨A6, c6, rfl, ho6, hc6, hm6, hn6, hr6, hb6⟩
      have s6 := hb6.size
      clear kx5 kx6 kx7
      obtain ⟨w7, hw7⟩ : ∃ W, W = w6.alloc (.cells #[.int .i64 f_0, .int .i64 f_1, .slice A6 l_0.length c6] 30) := ⟨_, rfl⟩
      have hb7 : Below w6.heap.size w6 w7 := by rw [hw7]; exact (Below.refl _ _).alloc (Nat.le_refl _) _
      have s7 : w6.heap.size < w7.heap.size := by rw [hw7]; simp
      have kb7_0 : w7.cell? ⟨w6.heap.size, 0, none⟩ = some (.int .i64 f_0) := by rw [hw7]; simp [go_sem]
      have kb7_1 : w7.cell? ⟨w6.heap.size, 1, none⟩ = some (.int .i64 f_1) := by rw [hw7]; simp [go_sem]
      have kb7_2 : w7.cell? ⟨w6.heap.size, 2, none⟩ = some (.slice A6 l_0.length c6) := by rw [hw7]; simp [go_sem]
      have hwh7 := Lib.hid hw7
      clear hw7
      go_wp2_with fail
      rw [← hwh7.out]
      refine (toIntS_any A_1 c_1 l_1 _ (rd_1.upto (show Below w1.heap.size w1 w7 from ((((((hb2.mono (by omega)).trans (hb3.mono (by omega))).trans (hb4.mono (by omega))).trans (hb5.mono (by omega))).trans (hb6.mono (by omega))).trans (hb7.mono (by omega)))) (Nat.le_refl _)) (by omega)).mono ?_
      rintro e w8 ⟨A8, c8, rfl, ho8, hc8, hm8, hn8, hr8, hb8⟩
      have s8 := hb8.size
      have kx9 := ((show Below w7.heap.size w7 w8 from (hb8.mono (by omega))).cell (p := ⟨w6.heap.size, 0, none⟩) (by show w6.heap.size < _; omega)).trans kb7_0
      have kx10 := ((show Below w7.heap.size w7 w8 from (hb8.mono (by omega))).cell (p := ⟨w6.heap.size, 1, none⟩) (by show w6.heap.size < _; omega)).trans kb7_1
      have kx11 := ((show Below w7.heap.size w7 w8 from (hb8.mono (by omega))).cell (p := ⟨w6.heap.size, 2, none⟩) (by show w6.heap.size < _; omega)).trans kb7_2
      go_wp2_with fail
      refine (impl_Way _ _ _ _ _ _ _ _ _ (hr6.upto (show Below w6.heap.size w6 w8 from ((hb7.mono (by omega)).trans (hb8.mono (by omega)))) (Nat.le_refl _)) hr8 (by omega) (by omega)).mono ?_
      rintro e w9 ⟨rfl, hb9⟩
      have s9 := hb9.size
      have kx13 := ((show Below w7.heap.size w7 w9 from ((hb8.mono (by omega)).trans (hb9.mono (by omega)))).cell (p := ⟨w6.heap.size, 0, none⟩) (by show w6.heap.size < _; omega)).trans kb7_0
      have kx14 := ((show Below w7.heap.size w7 w9 from ((hb8.mono (by omega)).trans (hb9.mono (by omega)))).cell (p := ⟨w6.heap.size, 1, none⟩) (by show w6.heap.size < _; omega)).trans kb7_1
      have kx15 := ((show Below w7.heap.size w7 w9 from ((hb8.mono (by omega)).trans (hb9.mono (by omega)))).cell (p := ⟨w6.heap.size, 2, none⟩) (by show w6.heap.size < _; omega)).trans kb7_2
      have kx17 := ((show Below w1.heap.size w1 w9 from ((((((((hb2.mono (by omega)).trans (hb3.mono (by omega))).trans (hb4.mono (by omega))).trans (hb5.mono (by omega))).trans (hb6.mono (by omega))).trans (hb7.mono (by omega))).trans (hb8.mono (by omega))).trans (hb9.mono (by omega)))).cell (p := ⟨w.heap.size, 0, none⟩) (by show w.heap.size < _; omega)).trans kb1_0
      have kx18 := ((show Below w1.heap.size w1 w9 from ((((((((hb2.mono (by omega)).trans (hb3.mono (by omega))).trans (hb4.mono (by omega))).trans (hb5.mono (by omega))).trans (hb6.mono (by omega))).trans (hb7.mono (by omega))).trans (hb8.mono (by omega))).trans (hb9.mono (by omega)))).cell (p := ⟨w.heap.size, 1, none⟩) (by show w.heap.size < _; omega)).trans kb1_1
      have kx19 := ((show Below w1.heap.size w1 w9 from ((((((((hb2.mono (by omega)).trans (hb3.mono (by omega))).trans (hb4.mono (by omega))).trans (hb5.mono (by omega))).trans (hb6.mono (by omega))).trans (hb7.mono (by omega))).trans (hb8.mono (by omega))).trans (hb9.mono (by omega)))).cell (p := ⟨w.heap.size, 2, none⟩) (by show w.heap.size < _; omega)).trans kb1_2
      have lx9 : w6.heap.size < w9.heap.size := by omega
      have la9 : w.heap.size < w9.heap.size := by omega
      have rx9 := (hr6.upto (show Below w6.heap.size w6 w9 from (((hb7.mono (by omega)).trans (hb8.mono (by omega))).trans (hb9.mono (by omega)))) (Nat.le_refl _))
      have ra9 := (rd_0.upto (show Below w1.heap.size w1 w9 from ((((((((hb2.mono (by omega)).trans (hb3.mono (by omega))).trans (hb4.mono (by omega))).trans (hb5.mono (by omega))).trans (hb6.mono (by omega))).trans (hb7.mono (by omega))).trans (hb8.mono (by omega))).trans (hb9.mono (by omega)))) (Nat.le_refl _))
      go_wp2_with fail
      go_region_held3 (fun w' => w'.cell? ⟨w6.heap.size, 0, none⟩ = some (.int .i64 f_0) ∧ w'.cell? ⟨w6.heap.size, 1, none⟩ = some (.int .i64 f_1) ∧ w'.cell? ⟨w6.heap.size, 2, none⟩ = some (.slice A6 l_0.length c6) ∧ w'.cell? ⟨w.heap.size, 0, none⟩ = some (.int .i64 f_0) ∧ w'.cell? ⟨w.heap.size, 1, none⟩ = some (.int .i64 f_1) ∧ w'.cell? ⟨w.heap.size, 2, none⟩ = some (.slice A_0 l_0.length c_0) ∧ Below w9.heap.size w9 w') (first | exact held6_start kx13 kx14 kx15 kx17 kx18 kx19 rfl | exact held6_keep lx9 la9 (by assumption) hbz)
        (first | (go_at_call 17; refine (toCylinder_any f_0 f_1 A_0 c_0 l_0 _ (ra9.below (held6_bel (by assumption)) rfl) (by omega)).mono ?_; rintro e wz ⟨Az, cz, rfl, _, _, _, _, hrz, hbz⟩) | (go_at_call 20; refine (eqCylinder_same f_0 f_1 _ _ _ _ l_0 _ (rx9.below (held6_bel (by assumption)) rfl) (by assumption) (by omega)).mono ?_; rintro e wz ⟨rfl, hbz⟩))
      rename_i hH
      have hb10 : Below w9.heap.size w9 wz := held6_bel hH
      clear hH
      have s10 := hb10.size
      clear kx13 kx14 kx15 kx17 kx18 kx19
      go_wp2_with fail
      refine (toIntS_any A_1 c_1 l_1 _ (rd_1.upto (show Below w1.heap.size w1 wz from (((((((((hb2.mono (by omega)).trans (hb3.mono (by omega))).trans (hb4.mono (by omega))).trans (hb5.mono (by omega))).trans (hb6.mono (by omega))).trans (hb7.mono (by omega))).trans (hb8.mono (by omega))).trans (hb9.mono (by omega))).trans (hb10.mono (by omega)))) (Nat.le_refl _)) (by omega)).mono ?_
      rintro e w11 ⟨A11, c11, rfl, ho11, hc11, hm11, hn11, hr11, hb11⟩
      have s11 := hb11.size
      go_wp2_with fail
      refine (eqIntS_same _ _ _ _ l_1 _ (hr8.upto (show Below w8.heap.size w8 w11 from (((hb9.mono (by omega)).trans (hb10.mono (by omega))).trans (hb11.mono (by omega)))) (Nat.le_refl _)) hr11 (by omega)).mono ?_
      rintro e w12 ⟨rfl, hb12⟩
      have s12 := hb12.size
      go_wp2_with fail
      go_ret
      exact ⟨rfl, (show Below w.heap.size w w12 from ((((((((((((hb1.mono (by omega)).trans (hb2.mono (by omega))).trans (hb3.mono (by omega))).trans (hb4.mono (by omega))).trans (hb5.mono (by omega))).trans (hb6.mono (by omega))).trans (hb7.mono (by omega))).trans (hb8.mono (by omega))).trans (hb9.mono (by omega))).trans (hb10.mono (by omega))).trans (hb11.mono (by omega))).trans (hb12.mono (by omega))))⟩
end Go.Proofs.Ythgeijgojdmidaa
