/- The walk of the law on AfterTurns. -/
import Derived.Test.YtajlopigpppeaaaAftS
import Derived.Test.YtajlopigpppeaaaAftH
import Derived.Deep.RegionHeld3
import Derived.Deep.Cut
namespace Go.Proofs.Ytajlopigpppeaaa
open Go.ChangeShapes Go.WideShapes Go.ChangeAt Go.RowKit
set_option linter.unusedVariables false
set_option maxHeartbeats 1600000 in
theorem walk_FnExactAfterTurns (A_0 : Option Addr) (c_0 : Nat) (l_0 : List Int) (f_0 : Int) (a_1 : Int) (w : World) (q_0 : l_0.length ≤ c_0 ∧ c_0 ≤ maxLen ∧ RdI w A_0 l_0 ∧ ∀ i, i < l_0.length → Rng (gt l_0 i)) (qf_0 : Rng f_0) (q_1 : Rng a_1) :
    Calls Try.prog 9 #[.agg #[.slice A_0 l_0.length c_0, .int .i64 f_0], .int .i64 a_1] w fun e w' => e = .returned (.bool true) ∧ Below w.heap.size w w' := by
  obtain ⟨hc_0, hm_0, rdw_0, rg_0⟩ := q_0
  have hcm_0 := hm_0
  unfold maxLen at hcm_0
  by_cases hbig : 1048576 < l_0.length
  · have hbx : l_0.length ≤ 9223372036854775807 := by omega
    obtain ⟨w1, hw1⟩ : ∃ W, W = w.alloc (.cells #[.slice A_0 l_0.length c_0, .int .i64 f_0] 54) := ⟨_, rfl⟩
    have hb1 : Below w.heap.size w w1 := by rw [hw1]; exact (Below.refl _ _).alloc (Nat.le_refl _) _
    have s1 : w.heap.size < w1.heap.size := by rw [hw1]; simp
    have kb1_0 : w1.cell? ⟨w.heap.size, 0, none⟩ = some (.slice A_0 l_0.length c_0) := by rw [hw1]; simp [go_sem]
    have kb1_1 : w1.cell? ⟨w.heap.size, 1, none⟩ = some (.int .i64 f_0) := by rw [hw1]; simp [go_sem]
    have rd_0 : RdI w1 A_0 l_0 := rdw_0.below hb1 rfl
    have hwh1 := Lib.hid hw1
    clear hw1
    go_enter Try.func9, Try.ntmps9
    go_wp2_with fail
    rw [← hwh1.out]
    refine (szWear_big A_0 c_0 l_0 f_0 w1 hbig hbx).mono ?_
    rintro e w2 ⟨rfl, hb2⟩
    go_wp2_with fail
    go_ret
    exact ⟨rfl, hb1.trans (hb2.mono (by omega))⟩
  · have hl_0 : l_0.length ≤ 1048576 := by omega
    have hL2 : (aftL l_0 f_0 a_1).length ≤ 1048576 := by have := aftL_len l_0 f_0 a_1; omega
    obtain ⟨w1, hw1⟩ : ∃ W, W = w.alloc (.cells #[.slice A_0 l_0.length c_0, .int .i64 f_0] 54) := ⟨_, rfl⟩
    have hb1 : Below w.heap.size w w1 := by rw [hw1]; exact (Below.refl _ _).alloc (Nat.le_refl _) _
    have s1 : w.heap.size < w1.heap.size := by rw [hw1]; simp
    have kb1_0 : w1.cell? ⟨w.heap.size, 0, none⟩ = some (.slice A_0 l_0.length c_0) := by rw [hw1]; simp [go_sem]
    have kb1_1 : w1.cell? ⟨w.heap.size, 1, none⟩ = some (.int .i64 f_0) := by rw [hw1]; simp [go_sem]
    have rd_0 : RdI w1 A_0 l_0 := rdw_0.below hb1 rfl
    have hwh1 := Lib.hid hw1
    clear hw1
    go_enter Try.func9, Try.ntmps9
    go_wp2_with fail
    rw [← hwh1.out]
    refine (szWear_any A_0 c_0 l_0 f_0 1048576 _ (by omega) (by omega)).mono ?_
    rintro e w2 ⟨rfl, hb2⟩
    have s2 := hb2.size
    have kx1 := ((show Below w1.heap.size w1 w2 from (hb2.mono (by omega))).cell (p := ⟨w.heap.size, 0, none⟩) (by show w.heap.size < _; omega)).trans kb1_0
    have kx2 := ((show Below w1.heap.size w1 w2 from (hb2.mono (by omega))).cell (p := ⟨w.heap.size, 1, none⟩) (by show w.heap.size < _; omega)).trans kb1_1
    go_wp2_with fail
    refine (toWear_any A_0 c_0 l_0 f_0 _ (rd_0.upto (show Below w1.heap.size w1 w2 from (hb2.mono (by omega))) (Nat.le_refl _)) (by omega)).mono ?_
    rintro e w3 ⟨A3, c3, rfl, ho3, hc3, hm3, hn3, hr3, hb3⟩
    have s3 := hb3.size
    clear kx1 kx2
    go_wp2_with fail
    refine (spec_After _ _ _ _ _ _ hr3 (by omega) hn3).mono ?_
    rintro e w4 ⟨A4, c4, rfl, ho4, hc4, hm4, hn4, hr4, hb4⟩
    have s4 := hb4.size
    obtain ⟨w5, hw5⟩ : ∃ W, W = w4.alloc (.cells #[.slice A4 (aftL l_0 f_0 a_1).length c4, .int .i64 f_0] 56) := ⟨_, rfl⟩
    have hb5 : Below w4.heap.size w4 w5 := by rw [hw5]; exact (Below.refl _ _).alloc (Nat.le_refl _) _
    have s5 : w4.heap.size < w5.heap.size := by rw [hw5]; simp
    have kb5_0 : w5.cell? ⟨w4.heap.size, 0, none⟩ = some (.slice A4 (aftL l_0 f_0 a_1).length c4) := by rw [hw5]; simp [go_sem]
    have kb5_1 : w5.cell? ⟨w4.heap.size, 1, none⟩ = some (.int .i64 f_0) := by rw [hw5]; simp [go_sem]
    have hwh5 := Lib.hid hw5
    clear hw5
    have kx4 := ((show Below w1.heap.size w1 w5 from ((((hb2.mono (by omega)).trans (hb3.mono (by omega))).trans (hb4.mono (by omega))).trans (hb5.mono (by omega)))).cell (p := ⟨w.heap.size, 0, none⟩) (by show w.heap.size < _; omega)).trans kb1_0
    have kx5 := ((show Below w1.heap.size w1 w5 from ((((hb2.mono (by omega)).trans (hb3.mono (by omega))).trans (hb4.mono (by omega))).trans (hb5.mono (by omega)))).cell (p := ⟨w.heap.size, 1, none⟩) (by show w.heap.size < _; omega)).trans kb1_1
    go_upto_region 6 with (fail)
    rw [← hwh5.out]
    go_wp2_with fail
    refine (toWear_any A_0 c_0 l_0 f_0 _ (rd_0.upto (show Below w1.heap.size w1 w5 from ((((hb2.mono (by omega)).trans (hb3.mono (by omega))).trans (hb4.mono (by omega))).trans (hb5.mono (by omega)))) (Nat.le_refl _)) (by omega)).mono ?_
    rintro e w6 ⟨A6, c6, rfl, ho6, hc6, hm6, hn6, hr6, hb6⟩
    have s6 := hb6.size
    clear kx4 kx5
    obtain ⟨w7, hw7⟩ : ∃ W, W = w6.alloc (.cells #[.slice A6 l_0.length c6, .int .i64 f_0] 56) := ⟨_, rfl⟩
    have hb7 : Below w6.heap.size w6 w7 := by rw [hw7]; exact (Below.refl _ _).alloc (Nat.le_refl _) _
    have s7 : w6.heap.size < w7.heap.size := by rw [hw7]; simp
    have kb7_0 : w7.cell? ⟨w6.heap.size, 0, none⟩ = some (.slice A6 l_0.length c6) := by rw [hw7]; simp [go_sem]
    have kb7_1 : w7.cell? ⟨w6.heap.size, 1, none⟩ = some (.int .i64 f_0) := by rw [hw7]; simp [go_sem]
    have hwh7 := Lib.hid hw7
    clear hw7
    go_upto_region 7 with (fail)
    rw [← hwh7.out]
    go_wp2_with fail
    refine (impl_After _ _ _ _ _ _ (hr6.upto (show Below w6.heap.size w6 w7 from (hb7.mono (by omega))) (Nat.le_refl _)) (by omega) hn6).mono ?_
    rintro e w8 ⟨A8, c8, rfl, ho8, hc8, hm8, hn8, hr8, hb8⟩
    have s8 := hb8.size
    obtain ⟨w9, hw9⟩ : ∃ W, W = w8.alloc (.cells #[.slice A8 (aftL l_0 f_0 a_1).length c8, .int .i64 f_0] 56) := ⟨_, rfl⟩
    have hb9 : Below w8.heap.size w8 w9 := by rw [hw9]; exact (Below.refl _ _).alloc (Nat.le_refl _) _
    have s9 : w8.heap.size < w9.heap.size := by rw [hw9]; simp
    have kb9_0 : w9.cell? ⟨w8.heap.size, 0, none⟩ = some (.slice A8 (aftL l_0 f_0 a_1).length c8) := by rw [hw9]; simp [go_sem]
    have kb9_1 : w9.cell? ⟨w8.heap.size, 1, none⟩ = some (.int .i64 f_0) := by rw [hw9]; simp [go_sem]
    have hwh9 := Lib.hid hw9
    clear hw9
    have kx7 := ((show Below w5.heap.size w5 w9 from ((((hb6.mono (by omega)).trans (hb7.mono (by omega))).trans (hb8.mono (by omega))).trans (hb9.mono (by omega)))).cell (p := ⟨w4.heap.size, 0, none⟩) (by show w4.heap.size < _; omega)).trans kb5_0
    have kx8 := ((show Below w5.heap.size w5 w9 from ((((hb6.mono (by omega)).trans (hb7.mono (by omega))).trans (hb8.mono (by omega))).trans (hb9.mono (by omega)))).cell (p := ⟨w4.heap.size, 1, none⟩) (by show w4.heap.size < _; omega)).trans kb5_1
    go_upto_region 8 with (fail)
    rw [← hwh9.out]
    go_wp2_with fail
    refine (eqWear_same _ _ _ _ (aftL l_0 f_0 a_1) f_0 _ (hr8.upto (show Below w8.heap.size w8 w9 from (hb9.mono (by omega))) (Nat.le_refl _)) (hr4.upto (show Below w4.heap.size w4 w9 from (((((hb5.mono (by omega)).trans (hb6.mono (by omega))).trans (hb7.mono (by omega))).trans (hb8.mono (by omega))).trans (hb9.mono (by omega)))) (Nat.le_refl _)) (by omega)).mono ?_
    rintro e w10 ⟨rfl, hb10⟩
    have s10 := hb10.size
    clear kx7 kx8
    have kx10 := ((show Below w7.heap.size w7 w10 from (((hb8.mono (by omega)).trans (hb9.mono (by omega))).trans (hb10.mono (by omega)))).cell (p := ⟨w6.heap.size, 0, none⟩) (by show w6.heap.size < _; omega)).trans kb7_0
    have kx11 := ((show Below w7.heap.size w7 w10 from (((hb8.mono (by omega)).trans (hb9.mono (by omega))).trans (hb10.mono (by omega)))).cell (p := ⟨w6.heap.size, 1, none⟩) (by show w6.heap.size < _; omega)).trans kb7_1
    have kx13 := ((show Below w1.heap.size w1 w10 from (((((((((hb2.mono (by omega)).trans (hb3.mono (by omega))).trans (hb4.mono (by omega))).trans (hb5.mono (by omega))).trans (hb6.mono (by omega))).trans (hb7.mono (by omega))).trans (hb8.mono (by omega))).trans (hb9.mono (by omega))).trans (hb10.mono (by omega)))).cell (p := ⟨w.heap.size, 0, none⟩) (by show w.heap.size < _; omega)).trans kb1_0
    have kx14 := ((show Below w1.heap.size w1 w10 from (((((((((hb2.mono (by omega)).trans (hb3.mono (by omega))).trans (hb4.mono (by omega))).trans (hb5.mono (by omega))).trans (hb6.mono (by omega))).trans (hb7.mono (by omega))).trans (hb8.mono (by omega))).trans (hb9.mono (by omega))).trans (hb10.mono (by omega)))).cell (p := ⟨w.heap.size, 1, none⟩) (by show w.heap.size < _; omega)).trans kb1_1
    have lx10 : w6.heap.size < w10.heap.size := by omega
    have la10 : w.heap.size < w10.heap.size := by omega
    have rx10 := (hr6.upto (show Below w6.heap.size w6 w10 from ((((hb7.mono (by omega)).trans (hb8.mono (by omega))).trans (hb9.mono (by omega))).trans (hb10.mono (by omega)))) (Nat.le_refl _))
    have ra10 := (rd_0.upto (show Below w1.heap.size w1 w10 from (((((((((hb2.mono (by omega)).trans (hb3.mono (by omega))).trans (hb4.mono (by omega))).trans (hb5.mono (by omega))).trans (hb6.mono (by omega))).trans (hb7.mono (by omega))).trans (hb8.mono (by omega))).trans (hb9.mono (by omega))).trans (hb10.mono (by omega)))) (Nat.le_refl _))
    go_wp2_with fail
    go_region_held3 (fun w' => w'.cell? ⟨w6.heap.size, 0, none⟩ = some (.slice A6 l_0.length c6) ∧ w'.cell? ⟨w6.heap.size, 1, none⟩ = some (.int .i64 f_0) ∧ w'.cell? ⟨w.heap.size, 0, none⟩ = some (.slice A_0 l_0.length c_0) ∧ w'.cell? ⟨w.heap.size, 1, none⟩ = some (.int .i64 f_0) ∧ Below w10.heap.size w10 w') (first | exact held4_start kx10 kx11 kx13 kx14 rfl | exact held4_keep lx10 la10 (by assumption) hbz)
      (first | (go_at_call 43; refine (toWear_any A_0 c_0 l_0 f_0 _ (ra10.below (held4_bel (by assumption)) rfl) (by omega)).mono ?_; rintro e wz ⟨Az, cz, rfl, _, _, _, _, hrz, hbz⟩) | (go_at_call 45; refine (eqWear_same _ _ _ _ l_0 f_0 _ (rx10.below (held4_bel (by assumption)) rfl) (by assumption) (by omega)).mono ?_; rintro e wz ⟨rfl, hbz⟩))
    rename_i hH
    have hb11 : Below w10.heap.size w10 wz := held4_bel hH
    clear hH
    have s11 := hb11.size
    clear kx10 kx11 kx13 kx14
    have kx16 := ((show Below w7.heap.size w7 wz from ((((hb8.mono (by omega)).trans (hb9.mono (by omega))).trans (hb10.mono (by omega))).trans (hb11.mono (by omega)))).cell (p := ⟨w6.heap.size, 0, none⟩) (by show w6.heap.size < _; omega)).trans kb7_0
    have kx17 := ((show Below w7.heap.size w7 wz from ((((hb8.mono (by omega)).trans (hb9.mono (by omega))).trans (hb10.mono (by omega))).trans (hb11.mono (by omega)))).cell (p := ⟨w6.heap.size, 1, none⟩) (by show w6.heap.size < _; omega)).trans kb7_1
    go_wp2_with fail
    have hox12 := (ho6.upto (show Below w6.heap.size w6 wz from (((((hb7.mono (by omega)).trans (hb8.mono (by omega))).trans (hb9.mono (by omega))).trans (hb10.mono (by omega))).trans (hb11.mono (by omega)))) (Nat.le_refl _))
    have hoy12_0 := (ho8.upto (show Below w8.heap.size w8 wz from (((hb9.mono (by omega)).trans (hb10.mono (by omega))).trans (hb11.mono (by omega)))) (Nat.le_refl _))
    have kx19 := ((show Below w5.heap.size w5 wz from ((((((hb6.mono (by omega)).trans (hb7.mono (by omega))).trans (hb8.mono (by omega))).trans (hb9.mono (by omega))).trans (hb10.mono (by omega))).trans (hb11.mono (by omega)))).cell (p := ⟨w4.heap.size, 0, none⟩) (by show w4.heap.size < _; omega)).trans kb5_0
    have kx20 := ((show Below w5.heap.size w5 wz from ((((((hb6.mono (by omega)).trans (hb7.mono (by omega))).trans (hb8.mono (by omega))).trans (hb9.mono (by omega))).trans (hb10.mono (by omega))).trans (hb11.mono (by omega)))).cell (p := ⟨w4.heap.size, 1, none⟩) (by show w4.heap.size < _; omega)).trans kb5_1
    have kx22 := ((show Below w9.heap.size w9 wz from ((hb10.mono (by omega)).trans (hb11.mono (by omega)))).cell (p := ⟨w8.heap.size, 0, none⟩) (by show w8.heap.size < _; omega)).trans kb9_0
    have kx23 := ((show Below w9.heap.size w9 wz from ((hb10.mono (by omega)).trans (hb11.mono (by omega)))).cell (p := ⟨w8.heap.size, 1, none⟩) (by show w8.heap.size < _; omega)).trans kb9_1
    refine (markWear_any _ _ _ _ _ _ (1) _ hox12 (by omega) (by omega) (by omega)).mono ?_
    rintro e w12 ⟨rfl, LM12, hLL12, hMM12, hoM12, hgM12⟩
    have hb12 := hox12.frame hgM12 (by omega)
    have s12 := hb12.size
    have hoK12_0 := keepRow_II ho6 (by omega) hoy12_0 hgM12
    have kk12_0_0 := hgM12.cell kx19 (by intro h; have hq := ho6.blk _ h.symm; simp only at hq; omega)
    have kk12_0_1 := hgM12.cell kx20 (by intro h; have hq := ho6.blk _ h.symm; simp only at hq; omega)
    have kk12_1_0 := hgM12.cell kx22 (by intro h; have hq := ho6.blk _ h.symm; simp only at hq; omega)
    have kk12_1_1 := hgM12.cell kx23 (by intro h; have hq := ho6.blk _ h.symm; simp only at hq; omega)
    clear hgM12 hLL12 hMM12 hoM12
    go_wp2_with fail
    refine (eqWear_same _ _ _ _ (aftL l_0 f_0 a_1) f_0 _ hoK12_0.rdA (hr4.upto (show Below w4.heap.size w4 w12 from ((((((((hb5.mono (by omega)).trans (hb6.mono (by omega))).trans (hb7.mono (by omega))).trans (hb8.mono (by omega))).trans (hb9.mono (by omega))).trans (hb10.mono (by omega))).trans (hb11.mono (by omega))).trans (hb12.mono (by omega)))) (Nat.le_refl _)) (by omega)).mono ?_
    rintro e w13 ⟨rfl, hb13⟩
    have s13 := hb13.size
    have kx25 := ((show Below w12.heap.size w12 w13 from (hb13.mono (by omega))).cell (p := ⟨w4.heap.size, 0, none⟩) (by show w4.heap.size < _; omega)).trans kk12_0_0
    have kx26 := ((show Below w12.heap.size w12 w13 from (hb13.mono (by omega))).cell (p := ⟨w4.heap.size, 1, none⟩) (by show w4.heap.size < _; omega)).trans kk12_0_1
    have kx28 := ((show Below w12.heap.size w12 w13 from (hb13.mono (by omega))).cell (p := ⟨w8.heap.size, 0, none⟩) (by show w8.heap.size < _; omega)).trans kk12_1_0
    have kx29 := ((show Below w12.heap.size w12 w13 from (hb13.mono (by omega))).cell (p := ⟨w8.heap.size, 1, none⟩) (by show w8.heap.size < _; omega)).trans kk12_1_1
    go_wp2_with fail
    have hox14 := (hoK12_0.upto (show Below w12.heap.size w12 w13 from (hb13.mono (by omega))) (Nat.le_refl _))
    refine (markWear_any _ _ _ _ _ _ 1 _ hox14 (by omega) (by omega) (by omega)).mono ?_
    rintro e w14 ⟨rfl, LM14, hLL14, hMM14, hoM14, hgM14⟩
    have hb14 := hox14.frame hgM14 (by omega)
    have s14 := hb14.size
    have kk14_0_0 := hgM14.cell kx25 (by intro h; have hq := ho8.blk _ h.symm; simp only at hq; omega)
    have kk14_0_1 := hgM14.cell kx26 (by intro h; have hq := ho8.blk _ h.symm; simp only at hq; omega)
    have kk14_1_0 := hgM14.cell kx28 (by intro h; have hq := ho8.blk _ h.symm; simp only at hq; omega)
    have kk14_1_1 := hgM14.cell kx29 (by intro h; have hq := ho8.blk _ h.symm; simp only at hq; omega)
    have hLH := Lib.hid hLL14
    clear hgM14 hLL14
    go_wp2_with fail
    refine (heldWear_any _ _ _ _ _ 1 _ hoM14.rdA hLH.out hMM14 (by omega) (by omega) (by omega)).mono ?_
    rintro e w15 ⟨rfl, hb15⟩
    have s15 := hb15.size
    have kx31 := ((show Below w1.heap.size w1 w15 from ((((((((((((((hb2.mono (by omega)).trans (hb3.mono (by omega))).trans (hb4.mono (by omega))).trans (hb5.mono (by omega))).trans (hb6.mono (by omega))).trans (hb7.mono (by omega))).trans (hb8.mono (by omega))).trans (hb9.mono (by omega))).trans (hb10.mono (by omega))).trans (hb11.mono (by omega))).trans (hb12.mono (by omega))).trans (hb13.mono (by omega))).trans (hb14.mono (by omega))).trans (hb15.mono (by omega)))).cell (p := ⟨w.heap.size, 0, none⟩) (by show w.heap.size < _; omega)).trans kb1_0
    have kx32 := ((show Below w1.heap.size w1 w15 from ((((((((((((((hb2.mono (by omega)).trans (hb3.mono (by omega))).trans (hb4.mono (by omega))).trans (hb5.mono (by omega))).trans (hb6.mono (by omega))).trans (hb7.mono (by omega))).trans (hb8.mono (by omega))).trans (hb9.mono (by omega))).trans (hb10.mono (by omega))).trans (hb11.mono (by omega))).trans (hb12.mono (by omega))).trans (hb13.mono (by omega))).trans (hb14.mono (by omega))).trans (hb15.mono (by omega)))).cell (p := ⟨w.heap.size, 1, none⟩) (by show w.heap.size < _; omega)).trans kb1_1
    go_wp2_with fail
    refine (toWear_any A_0 c_0 l_0 f_0 _ (rd_0.upto (show Below w1.heap.size w1 w15 from ((((((((((((((hb2.mono (by omega)).trans (hb3.mono (by omega))).trans (hb4.mono (by omega))).trans (hb5.mono (by omega))).trans (hb6.mono (by omega))).trans (hb7.mono (by omega))).trans (hb8.mono (by omega))).trans (hb9.mono (by omega))).trans (hb10.mono (by omega))).trans (hb11.mono (by omega))).trans (hb12.mono (by omega))).trans (hb13.mono (by omega))).trans (hb14.mono (by omega))).trans (hb15.mono (by omega)))) (Nat.le_refl _)) (by omega)).mono ?_
    rintro e w16 ⟨A16, c16, rfl, ho16, hc16, hm16, hn16, hr16, hb16⟩
    have s16 := hb16.size
    clear kx31 kx32
    go_wp2_with fail
    refine (impl_After _ _ _ _ _ _ hr16 (by omega) hn16).mono ?_
    rintro e w17 ⟨A17, c17, rfl, ho17, hc17, hm17, hn17, hr17, hb17⟩
    have s17 := hb17.size
    obtain ⟨w18, hw18⟩ : ∃ W, W = w17.alloc (.cells #[.slice A17 (aftL l_0 f_0 a_1).length c17, .int .i64 f_0] 56) := ⟨_, rfl⟩
    have hb18 : Below w17.heap.size w17 w18 := by rw [hw18]; exact (Below.refl _ _).alloc (Nat.le_refl _) _
    have s18 : w17.heap.size < w18.heap.size := by rw [hw18]; simp
    have kb18_0 : w18.cell? ⟨w17.heap.size, 0, none⟩ = some (.slice A17 (aftL l_0 f_0 a_1).length c17) := by rw [hw18]; simp [go_sem]
    have kb18_1 : w18.cell? ⟨w17.heap.size, 1, none⟩ = some (.int .i64 f_0) := by rw [hw18]; simp [go_sem]
    have hwh18 := Lib.hid hw18
    clear hw18
    have kx34 := ((show Below w14.heap.size w14 w18 from ((((hb15.mono (by omega)).trans (hb16.mono (by omega))).trans (hb17.mono (by omega))).trans (hb18.mono (by omega)))).cell (p := ⟨w4.heap.size, 0, none⟩) (by show w4.heap.size < _; omega)).trans kk14_0_0
    have kx35 := ((show Below w14.heap.size w14 w18 from ((((hb15.mono (by omega)).trans (hb16.mono (by omega))).trans (hb17.mono (by omega))).trans (hb18.mono (by omega)))).cell (p := ⟨w4.heap.size, 1, none⟩) (by show w4.heap.size < _; omega)).trans kk14_0_1
    go_upto_region 25 with (fail)
    rw [← hwh18.out]
    go_wp2_with fail
    refine (eqWear_same _ _ _ _ (aftL l_0 f_0 a_1) f_0 _ (hr17.upto (show Below w17.heap.size w17 w18 from (hb18.mono (by omega))) (Nat.le_refl _)) (hr4.upto (show Below w4.heap.size w4 w18 from ((((((((((((((hb5.mono (by omega)).trans (hb6.mono (by omega))).trans (hb7.mono (by omega))).trans (hb8.mono (by omega))).trans (hb9.mono (by omega))).trans (hb10.mono (by omega))).trans (hb11.mono (by omega))).trans (hb12.mono (by omega))).trans (hb13.mono (by omega))).trans (hb14.mono (by omega))).trans (hb15.mono (by omega))).trans (hb16.mono (by omega))).trans (hb17.mono (by omega))).trans (hb18.mono (by omega)))) (Nat.le_refl _)) (by omega)).mono ?_
    rintro e w19 ⟨rfl, hb19⟩
    have s19 := hb19.size
    clear kx34 kx35
    have kx37 := ((show Below w14.heap.size w14 w19 from (((((hb15.mono (by omega)).trans (hb16.mono (by omega))).trans (hb17.mono (by omega))).trans (hb18.mono (by omega))).trans (hb19.mono (by omega)))).cell (p := ⟨w8.heap.size, 0, none⟩) (by show w8.heap.size < _; omega)).trans kk14_1_0
    have kx38 := ((show Below w14.heap.size w14 w19 from (((((hb15.mono (by omega)).trans (hb16.mono (by omega))).trans (hb17.mono (by omega))).trans (hb18.mono (by omega))).trans (hb19.mono (by omega)))).cell (p := ⟨w8.heap.size, 1, none⟩) (by show w8.heap.size < _; omega)).trans kk14_1_1
    go_wp2_with fail
    refine (heldWear_any _ _ _ _ _ 1 _ (hoM14.rdA.upto (show Below w14.heap.size w14 w19 from (((((hb15.mono (by omega)).trans (hb16.mono (by omega))).trans (hb17.mono (by omega))).trans (hb18.mono (by omega))).trans (hb19.mono (by omega)))) (Nat.le_refl _)) hLH.out hMM14 (by omega) (by omega) (by omega)).mono ?_
    rintro e w20 ⟨rfl, hb20⟩
    have s20 := hb20.size
    clear kx37 kx38
    go_wp2_with fail
    go_ret
    exact ⟨rfl, (show Below w.heap.size w w20 from ((((((((((((((((((((hb1.mono (by omega)).trans (hb2.mono (by omega))).trans (hb3.mono (by omega))).trans (hb4.mono (by omega))).trans (hb5.mono (by omega))).trans (hb6.mono (by omega))).trans (hb7.mono (by omega))).trans (hb8.mono (by omega))).trans (hb9.mono (by omega))).trans (hb10.mono (by omega))).trans (hb11.mono (by omega))).trans (hb12.mono (by omega))).trans (hb13.mono (by omega))).trans (hb14.mono (by omega))).trans (hb15.mono (by omega))).trans (hb16.mono (by omega))).trans (hb17.mono (by omega))).trans (hb18.mono (by omega))).trans (hb19.mono (by omega))).trans (hb20.mono (by omega))))⟩
end Go.Proofs.Ytajlopigpppeaaa
