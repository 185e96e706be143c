/- The walk of the law on WearOk. -/
import Derived.Test.YtcjlkdojobdlcaaWear
import Derived.Deep.RegionHeld3
namespace Go.Proofs.Ytcjlkdojobdlcaa
open Go.ChangeShapes Go.WideShapes Go.ChangeAt Go.RowKit
set_option linter.unusedVariables false
set_option maxHeartbeats 1600000 in
theorem walk_FnExactWearOk (A_0 : Option Addr) (c_0 : Nat) (l_0 : List Int) (f_0 : Int) (w : World) (q_0 : l_0.length ≤ c_0 ∧ c_0 ≤ maxLen ∧ RdI w A_0 l_0 ∧ ∀ i, i < l_0.length → Rng (gt l_0 i)) (qf_0 : Rng f_0) :
    Calls Try.prog 5 #[.agg #[.slice A_0 l_0.length c_0, .int .i64 f_0]] w fun e w' => e = .returned (.bool true) ∧ Below w.heap.size w w' := by
  obtain ⟨hc_0, hm_0, rdw_0, rg_0⟩ := q_0
  have hcm_0 := hm_0
  unfold maxLen at hcm_0
  by_cases hbig : 1048576 < l_0.length
  · have hbx : l_0.length ≤ 9223372036854775807 := by omega
    obtain ⟨w1, hw1⟩ : ∃ W, W = w.alloc (.cells #[.slice A_0 l_0.length c_0, .int .i64 f_0] 32) := ⟨_, rfl⟩
    have hb1 : Below w.heap.size w w1 := by rw [hw1]; exact (Below.refl _ _).alloc (Nat.le_refl _) _
    have s1 : w.heap.size < w1.heap.size := by rw [hw1]; simp
    have kb1_0 : w1.cell? ⟨w.heap.size, 0, none⟩ = some (.slice A_0 l_0.length c_0) := by rw [hw1]; simp [go_sem]
    have kb1_1 : w1.cell? ⟨w.heap.size, 1, none⟩ = some (.int .i64 f_0) := by rw [hw1]; simp [go_sem]
    have rd_0 : RdI w1 A_0 l_0 := rdw_0.below hb1 rfl
    have hwh1 := Lib.hid hw1
    clear hw1
    go_enter Try.func5, Try.ntmps5
    go_wp2_with fail
    rw [← hwh1.out]
    refine (szWear_big A_0 c_0 l_0 f_0 w1 hbig hbx).mono ?_
    rintro e w2 ⟨rfl, hb2⟩
    go_wp2_with fail
    go_ret
    exact ⟨rfl, hb1.trans (hb2.mono (by omega))⟩
  · have hl_0 : l_0.length ≤ 1048576 := by omega
    obtain ⟨w1, hw1⟩ : ∃ W, W = w.alloc (.cells #[.slice A_0 l_0.length c_0, .int .i64 f_0] 32) := ⟨_, rfl⟩
    have hb1 : Below w.heap.size w w1 := by rw [hw1]; exact (Below.refl _ _).alloc (Nat.le_refl _) _
    have s1 : w.heap.size < w1.heap.size := by rw [hw1]; simp
    have kb1_0 : w1.cell? ⟨w.heap.size, 0, none⟩ = some (.slice A_0 l_0.length c_0) := by rw [hw1]; simp [go_sem]
    have kb1_1 : w1.cell? ⟨w.heap.size, 1, none⟩ = some (.int .i64 f_0) := by rw [hw1]; simp [go_sem]
    have rd_0 : RdI w1 A_0 l_0 := rdw_0.below hb1 rfl
    have hwh1 := Lib.hid hw1
    clear hw1
    go_enter Try.func5, Try.ntmps5
    go_wp2_with fail
    rw [← hwh1.out]
    refine (szWear_any A_0 c_0 l_0 f_0 1048576 _ (by omega) (by omega)).mono ?_
    rintro e w2 ⟨rfl, hb2⟩
    have s2 := hb2.size
    have kx1 := ((show Below w1.heap.size w1 w2 from (hb2.mono (by omega))).cell (p := ⟨w.heap.size, 0, none⟩) (by show w.heap.size < _; omega)).trans kb1_0
    have kx2 := ((show Below w1.heap.size w1 w2 from (hb2.mono (by omega))).cell (p := ⟨w.heap.size, 1, none⟩) (by show w.heap.size < _; omega)).trans kb1_1
    go_wp2_with fail
    refine (toWear_any A_0 c_0 l_0 f_0 _ (rd_0.upto (show Below w1.heap.size w1 w2 from (hb2.mono (by omega))) (Nat.le_refl _)) (by omega)).mono ?_
    rintro e w3 ⟨A3, c3, rfl, ho3, hc3, hm3, hn3, hr3, hb3⟩
    have s3 := hb3.size
    clear kx1 kx2
    go_wp2_with fail
    refine (spec_WearOk _ _ _ _ _ hr3 (by omega)).mono ?_
    rintro e w4 ⟨rfl, hb4⟩
    have s4 := hb4.size
    have kx4 := ((show Below w1.heap.size w1 w4 from (((hb2.mono (by omega)).trans (hb3.mono (by omega))).trans (hb4.mono (by omega)))).cell (p := ⟨w.heap.size, 0, none⟩) (by show w.heap.size < _; omega)).trans kb1_0
    have kx5 := ((show Below w1.heap.size w1 w4 from (((hb2.mono (by omega)).trans (hb3.mono (by omega))).trans (hb4.mono (by omega)))).cell (p := ⟨w.heap.size, 1, none⟩) (by show w.heap.size < _; omega)).trans kb1_1
    go_wp2_with fail
    refine (toWear_any A_0 c_0 l_0 f_0 _ (rd_0.upto (show Below w1.heap.size w1 w4 from (((hb2.mono (by omega)).trans (hb3.mono (by omega))).trans (hb4.mono (by omega)))) (Nat.le_refl _)) (by omega)).mono ?_
    rintro e w5 ⟨A5, c5, rfl, ho5, hc5, hm5, hn5, hr5, hb5⟩
    have s5 := hb5.size
    clear kx4 kx5
    obtain ⟨w6, hw6⟩ : ∃ W, W = w5.alloc (.cells #[.slice A5 l_0.length c5, .int .i64 f_0] 35) := ⟨_, rfl⟩
    have hb6 : Below w5.heap.size w5 w6 := by rw [hw6]; exact (Below.refl _ _).alloc (Nat.le_refl _) _
    have s6 : w5.heap.size < w6.heap.size := by rw [hw6]; simp
    have kb6_0 : w6.cell? ⟨w5.heap.size, 0, none⟩ = some (.slice A5 l_0.length c5) := by rw [hw6]; simp [go_sem]
    have kb6_1 : w6.cell? ⟨w5.heap.size, 1, none⟩ = some (.int .i64 f_0) := by rw [hw6]; simp [go_sem]
    have hwh6 := Lib.hid hw6
    clear hw6
    go_wp2_with fail
    rw [← hwh6.out]
    refine (impl_WearOk _ _ _ _ _ (hr5.upto (show Below w5.heap.size w5 w6 from (hb6.mono (by omega))) (Nat.le_refl _)) (by omega)).mono ?_
    rintro e w7 ⟨rfl, hb7⟩
    have s7 := hb7.size
    have kx7 := ((show Below w6.heap.size w6 w7 from (hb7.mono (by omega))).cell (p := ⟨w5.heap.size, 0, none⟩) (by show w5.heap.size < _; omega)).trans kb6_0
    have kx8 := ((show Below w6.heap.size w6 w7 from (hb7.mono (by omega))).cell (p := ⟨w5.heap.size, 1, none⟩) (by show w5.heap.size < _; omega)).trans kb6_1
    have kx10 := ((show Below w1.heap.size w1 w7 from ((((((hb2.mono (by omega)).trans (hb3.mono (by omega))).trans (hb4.mono (by omega))).trans (hb5.mono (by omega))).trans (hb6.mono (by omega))).trans (hb7.mono (by omega)))).cell (p := ⟨w.heap.size, 0, none⟩) (by show w.heap.size < _; omega)).trans kb1_0
    have kx11 := ((show Below w1.heap.size w1 w7 from ((((((hb2.mono (by omega)).trans (hb3.mono (by omega))).trans (hb4.mono (by omega))).trans (hb5.mono (by omega))).trans (hb6.mono (by omega))).trans (hb7.mono (by omega)))).cell (p := ⟨w.heap.size, 1, none⟩) (by show w.heap.size < _; omega)).trans kb1_1
    have lx7 : w5.heap.size < w7.heap.size := by omega
    have la7 : w.heap.size < w7.heap.size := by omega
    have rx7 := (hr5.upto (show Below w5.heap.size w5 w7 from ((hb6.mono (by omega)).trans (hb7.mono (by omega)))) (Nat.le_refl _))
    have ra7 := (rd_0.upto (show Below w1.heap.size w1 w7 from ((((((hb2.mono (by omega)).trans (hb3.mono (by omega))).trans (hb4.mono (by omega))).trans (hb5.mono (by omega))).trans (hb6.mono (by omega))).trans (hb7.mono (by omega)))) (Nat.le_refl _))
    go_wp2_with fail
    go_region_held3 (fun w' => w'.cell? ⟨w5.heap.size, 0, none⟩ = some (.slice A5 l_0.length c5) ∧ w'.cell? ⟨w5.heap.size, 1, none⟩ = some (.int .i64 f_0) ∧ w'.cell? ⟨w.heap.size, 0, none⟩ = some (.slice A_0 l_0.length c_0) ∧ w'.cell? ⟨w.heap.size, 1, none⟩ = some (.int .i64 f_0) ∧ Below w7.heap.size w7 w') (first | exact held4_start kx7 kx8 kx10 kx11 rfl | exact held4_keep lx7 la7 (by assumption) hbz)
      (first | (go_at_call 21; refine (toWear_any A_0 c_0 l_0 f_0 _ (ra7.below (held4_bel (by assumption)) rfl) (by omega)).mono ?_; rintro e wz ⟨Az, cz, rfl, _, _, _, _, hrz, hbz⟩) | (go_at_call 23; refine (eqWear_same _ _ _ _ l_0 f_0 _ (rx7.below (held4_bel (by assumption)) rfl) (by assumption) (by omega)).mono ?_; rintro e wz ⟨rfl, hbz⟩))
    rename_i hH
    have hb8 : Below w7.heap.size w7 wz := held4_bel hH
    clear hH
    have s8 := hb8.size
    clear kx7 kx8 kx10 kx11
    go_wp2_with fail
    go_ret
    exact ⟨rfl, (show Below w.heap.size w wz from ((((((((hb1.mono (by omega)).trans (hb2.mono (by omega))).trans (hb3.mono (by omega))).trans (hb4.mono (by omega))).trans (hb5.mono (by omega))).trans (hb6.mono (by omega))).trans (hb7.mono (by omega))).trans (hb8.mono (by omega))))⟩
end Go.Proofs.Ytcjlkdojobdlcaa
