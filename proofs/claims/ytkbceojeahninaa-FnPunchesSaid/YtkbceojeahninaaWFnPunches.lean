/- The walk of FnPunches. -/
import Derived.Test.YtkbceojeahninaaDFew
import Derived.Test.YtkbceojeahninaaPunP
import Derived.Test.YtkbceojeahninaaPunA
import Derived.Test.YtkbceojeahninaaLawH
import Derived.Test.YtkbceojeahninaaArgB
import Derived.Test.YtkbceojeahninaaApp
import Derived.Deep.Cut
import Derived.Deep.CutRange
import Derived.Deep.DeepFit
import Derived.Outline
import Derived.Deep.RegionHeld3
namespace Go.Proofs.Ytkbceojeahninaa
open Go.ChangeShapes Go.WideShapes Go.ChangeAt Go.RowKit
set_option linter.unusedVariables false
theorem mv_law2 {s t : Int} {P : List (Int × Int)} (h : cylB s t P = true) {i k : Nat} (hi : i < P.length) (hk : k < P.length) : (moveZ (tm P i) (pt P i) (tm P k) (pt P k) s != moveZ (tm P k) (pt P k) (tm P i) (pt P i) s) = false ∧ (moveZ (tm P i) (pt P i) (tm P k) (pt P k) s == 0) = ((i : Int) == (k : Int)) := by
  obtain ⟨a, b⟩ := mv_law h hi hk
  unfold mvZ at a b
  refine ⟨by rw [a]; simp, ?_⟩
  rw [Bool.eq_iff_iff, beq_iff_eq, beq_iff_eq, b]
  omega
attribute [local irreducible] tm pt gt cylB bstL bstB neaZ trkL wayZ swapZ swapB mvZ moveZ prmB in
set_option maxHeartbeats 12800000 in
set_option maxRecDepth 100000 in
theorem walk_FnPunches (A : Option Addr) (c : Nat) (l0 : List Int) (w : World) (w0 : l0.length ≤ c ∧ c ≤ maxLen ∧ RdU w A l0.length w.heap.size ∧ True) :
    Calls Try.prog 6 #[.slice A l0.length c] w fun e w' => e = .returned (.bool true) ∧ Below w.heap.size w w' := by
  obtain ⟨_, _, hr, _⟩ := w0
  generalize l0.length = n at *
  by_cases hn : n ≤ 1048576
  · go_enter Try.func6, Try.ntmps6
    go_wp2_with fail
    refine (big_no A n c w hn).mono ?_
    rintro e wz ⟨rfl, rfl⟩
    go_wp2_with fail
    refine (draw_few w A n c hn hr).mono ?_
    rintro e w1 ⟨s, t, A1, c1, P, rfl, hP, hPl, hrd, hb1⟩
    have HP := Lib.hid hP
    have hbx := BoxC.made w1 56 s t (.slice A1 P.length c1)
    have hbV : Below w1.heap.size w1 (w1.alloc (.cells #[.int .i64 s, .int .i64 t, .slice A1 P.length c1] 56)) := (Below.refl _ _).alloc (Nat.le_refl _) _
    have hrdV := hrd.below hbV rfl
    have hbw := hb1.trans (hbV.mono hb1.size)
    clear hr hP hb1 hbV hrd
    go_upto_region 4 with (fail)
    generalize hV : w1.alloc _ = V at *
    generalize w1.heap.size = xb at *
    clear hV
    obtain ⟨b1, b2, b4⟩ := best_law HP.out (show P.length ≤ 7 by omega)
    have hbl := prm_ln b2
    have a2 := nea_prm HP.out
    have hal := prm_ln a2
    have t2 := trk_prm HP.out
    have htl := prm_ln t2
    have HB1 := Lib.hid b1
    have HB2 := Lib.hid b2
    have hxw : wayZ s t P (bstL s t P) = cosF s P (bstL s t P) := way_cos HP.out b2
    have hxp : 0 ≤ wayZ s t P (bstL s t P) := by rw [hxw]; exact cos_pos HP.out fun x hx => rngI_mem.1 ((prm_perm b2).mem_iff.1 hx)
    have HLE := Lib.hid (show ∀ p, prmB p P.length = true → wayZ s t P (bstL s t P) ≤ wayZ s t P p from fun p hp => by rw [hxw, way_cos HP.out hp]; exact b4 p hp)
    have hwa := HLE.out _ a2
    have hwt := HLE.out _ t2
    have HAZ := Lib.hid (fun hn => nea_zero (s := s) (t := t) HP.out hn)
    have HBL := Lib.hid hbl
    have HAL := Lib.hid hal
    have HTL := Lib.hid htl
    obtain ⟨X, hX⟩ : ∃ X, X = wayZ s t P (bstL s t P) := ⟨_, rfl⟩
    rw [← hX] at hxp HLE hwa hwt
    have HX := Lib.hid hX
    clear b1 b2 b4 a2 t2 hxw hX hbl hal htl
    obtain ⟨x0, x1, x2, x3, x4, x5, x6⟩ := id hbx
    go_wp2_with fail
    refine (impl_Best s t A1 c1 P V hrdV (by omega)).mono ?_
    rintro e v1 ⟨A2, c2, rfl, _, _, _, hA2, hrb, hv1⟩
    rw [HB1.out]
    have hb1 := hbw.trans (hv1.mono hbw.size)
    have hx1 := hbx.below hv1
    have hrd1 := hrdV.below hv1 rfl
    obtain ⟨bL, hbL⟩ : ∃ bL, bL = bstL s t P := ⟨_, rfl⟩
    rw [← hbL] at HB2 HBL HX hrb ⊢
    obtain ⟨aL, haL⟩ : ∃ aL, aL = neaZ s t P := ⟨_, rfl⟩
    rw [← haL] at hwa HAZ HAL
    obtain ⟨tL, htL⟩ : ∃ tL, tL = trkL s t P := ⟨_, rfl⟩
    rw [← htL] at hwt HTL
    have HAE := Lib.hid haL
    have HTE := Lib.hid htL
    clear hbL haL htL hv1 hbw hbx hrdV
    obtain ⟨x0, x1, x2, x3, x4, x5, x6⟩ := id hx1
    have hb9 : bL.length ≤ 5 := by rw [HBL.out]; exact hPl
    have ha9 : aL.length ≤ 5 := by rw [HAL.out]; exact hPl
    have ht9 : tL.length ≤ 5 := by rw [HTL.out]; exact hPl
    go_wp2_with fail
    refine (impl_Neo s t A1 c1 P v1 hrd1 (by omega)).mono ?_
    rintro e v2 ⟨A3, c3, rfl, _, _, _, _, hra, hv2⟩
    rw [← HAE.out] at hra ⊢
    have hb2 := hb1.trans (hv2.mono hb1.size)
    have hx2 := hx1.below hv2
    have hrd2 := hrd1.below hv2 rfl
    have hrb2 := hrb.below hv2 rfl
    clear hv2 hb1 hx1 hrd1 hrb x0 x1 x2 x3 x4 x5 x6
    obtain ⟨x0, x1, x2, x3, x4, x5, x6⟩ := id hx2
    go_wp2_with fail
    refine (impl_Trk s t A1 c1 P v2 hrd2 (by omega)).mono ?_
    rintro e v3 ⟨A4, c4, rfl, _, _, _, _, hrt, hv3⟩
    rw [← HTE.out] at hrt ⊢
    have hb3 := hb2.trans (hv3.mono hb2.size)
    have hx3 := hx2.below hv3
    have hrd3 := hrd2.below hv3 rfl
    have hrb3 := hrb2.below hv3 rfl
    have hra3 := hra.below hv3 rfl
    clear hv3 hb2 hx2 hrd2 hrb2 hra x0 x1 x2 x3 x4 x5 x6
    obtain ⟨x0, x1, x2, x3, x4, x5, x6⟩ := id hx3
    go_wp2_with fail
    refine (impl_Way s t A1 A2 c1 c2 P bL v3 hrd3 hrb3 (by omega) (by omega)).mono ?_
    rintro e v4 ⟨rfl, hv4⟩
    rw [← HX.out]
    have hb4 := hb3.trans (hv4.mono hb3.size)
    have hx4 := hx3.below hv4
    have hrd4 := hrd3.below hv4 rfl
    have hrb4 := hrb3.below hv4 rfl
    have hra4 := hra3.below hv4 rfl
    have hrt4 := hrt.below hv4 rfl
    clear hv4 hb3 hx3 hrd3 hrb3 hra3 hrt x0 x1 x2 x3 x4 x5 x6
    obtain ⟨x0, x1, x2, x3, x4, x5, x6⟩ := id hx4
    go_upto_region 9 with fail
    go_cut [86] from 39 (fun x wx => x = .bool false ∧ Below v4.heap.size v4 wx)
    case first =>
      have n1 : ((bL.length : Int) != (P.length : Int)) = false := by rw [HBL.out]; simp
      have n2 : ((aL.length : Int) != (P.length : Int)) = false := by rw [HAL.out]; simp
      have n3 : ((tL.length : Int) != (P.length : Int)) = false := by rw [HTL.out]; simp
      have t1 : decide (X < 0) = false := decide_eq_false (by omega)
      have t1' : ¬ X < 0 := by omega
      have t2 : ¬ wayZ s t P aL < X := by omega
      have t3 : ¬ wayZ s t P tL < X := by omega
      go_wp2_with fail
      refine (impl_Way s t A1 A3 c1 c3 P aL v4 hrd4 hra4 (by omega) (by omega)).mono ?_
      rintro e u1 ⟨rfl, hu1⟩
      obtain ⟨y0, y1, y2, y3, y4, y5, y6⟩ := hx4.below hu1
      go_wp2_with fail
      refine (impl_Way s t A1 A4 c1 c4 P tL u1 (hrd4.below hu1 rfl) (hrt4.below hu1 rfl) (by omega) (by omega)).mono ?_
      rintro e u2 ⟨rfl, hu2⟩
      have hu12 := hu1.trans (hu2.mono hu1.size)
      by_cases hP0 : 0 < P.length
      · have hP0i : (0 : Int) < (P.length : Int) := by omega
        obtain ⟨ab, ao, rfl, al, hca⟩ := hra4 (by have := HAL.out; omega)
        have k1 := (hu12.cell (p := ⟨ab, ao + 0, none⟩) al).trans (hca 0 (by have := HAL.out; omega))
        rw [HAZ.out hP0, Nat.add_zero] at k1
        have hA0 : (0 : Int) < (aL.length : Int) := by have := HAL.out; omega
        go_wp2_with fail
        go_meet
        case rel => exact ⟨by first | rfl | (simp; done) | (simp; omega), hu12⟩
      · have hP0i : ¬ (0 : Int) < (P.length : Int) := by omega
        go_wp2_with fail
        go_meet
        case rel => exact ⟨by first | rfl | (simp; done) | (simp; omega), hu12⟩
    case rest =>
      obtain ⟨rfl, hbc⟩ := hcut
      have hb5 := hb4.trans (hbc.mono hb4.size)
      have hx5 := hx4.below hbc
      have hrd5 := hrd4.below hbc rfl
      have hrb5 := hrb4.below hbc rfl
      have hrt5 := hrt4.below hbc rfl
      have HMV := Lib.hid (fun i k (hi : i < P.length) (hk : k < P.length) => mv_law2 HP.out hi hk)
      have HSW := Lib.hid (fun i k (hik : i ≤ k) (hk : k < P.length) => swap_law HB2.out hik hk)
      clear hbc hb4 hx4 hrd4 hrb4 hrt4 hra4 x0 x1 x2 x3 x4 x5 x6
      go_wp2
      go_loopw [10] (fun v wr => ∃ i : Nat, i ≤ P.length ∧ v = .int .i64 i ∧ Below wc.heap.size wc wr) (fun v _ => P.length - (intOf v).toNat)
      case atStart => exact ⟨0, by omega, rfl, Below.refl _ _⟩
      case round =>
        obtain ⟨i, hi, rfl, hbi⟩ := hrel
        obtain ⟨wo, hwo⟩ : ∃ wo, wo = wr := ⟨wr, rfl⟩
        subst hwo
        by_cases hin : i < P.length
        · have hin2 : (i : Int) < (P.length : Int) := by omega
          have h0i : (0 : Int) ≤ (i : Int) := by omega
          go_wp2
          go_loopw [11] (fun v wt => ∃ k : Nat, i ≤ k ∧ k ≤ P.length ∧ v = .int .i64 k ∧ Below wc.heap.size wc wt) (fun v _ => P.length - (intOf v).toNat)
          case atStart => exact ⟨i, Nat.le_refl _, hi, rfl, hbi⟩
          case round =>
            obtain ⟨k, hik, hk, rfl, hbk⟩ := hrel
            by_cases hkn : k < P.length
            · have hkn2 : (k : Int) < (P.length : Int) := by omega
              have h0k : (0 : Int) ≤ (k : Int) := by omega
              obtain ⟨s1, s2, s3, s4⟩ := HSW.out i k hik hkn
              have HS1 := Lib.hid s1
              have hyl := prm_ln s2
              have hyw := HLE.out _ s2
              obtain ⟨Y, hY⟩ : ∃ Y, Y = swapZ bL (i : Int) (k : Int) := ⟨_, rfl⟩
              rw [← hY] at s3 s4 hyl hyw
              have HY := Lib.hid hY
              have HYL := Lib.hid hyl
              have hy5 : Y.length ≤ 5 := by omega
              clear s1 s2 hY hyl
              go_wp2_with fail
              refine (impl_Swap A2 c2 bL i k wr (hrb5.below hbk rfl) (by omega) hA2).mono ?_
              rintro e u1 ⟨A5, c5, rfl, _, _, _, _, hry, hu1⟩
              rw [HS1.out]
              rw [← HY.out] at hry ⊢
              have hbu := hbk.trans (hu1.mono hbk.size)
              obtain ⟨x0, x1, x2, _, _, _, x6⟩ := hx5.below hbu
              obtain ⟨yb, yo, rfl, yl, hcy⟩ := hry (by have := HYL.out; omega)
              obtain ⟨bb, bo, rfl, bl, hcb⟩ := hrb5 (by have := HBL.out; omega)
              have y1 := hcy i (by have := HYL.out; omega)
              have y2 := hcy k (by have := HYL.out; omega)
              rw [s3] at y1
              rw [s4] at y2
              have z1 := (hbu.cell (p := ⟨bb, bo + k, none⟩) bl).trans (hcb k (by have := HBL.out; omega))
              have z2 := (hbu.cell (p := ⟨bb, bo + i, none⟩) bl).trans (hcb i (by have := HBL.out; omega))
              have mb := Nat.lt_of_lt_of_le bl hbu.size
              have hYi : (i : Int) < (Y.length : Int) := by have := HYL.out; omega
              have hYk : (k : Int) < (Y.length : Int) := by have := HYL.out; omega
              have hBi : (i : Int) < (bL.length : Int) := by have := HBL.out; omega
              have hBk : (k : Int) < (bL.length : Int) := by have := HBL.out; omega
              have hrdu := hrd5.below hbu rfl
              have hwx : ¬ wayZ s t P Y < X := by omega
              have hwx2 : decide (wayZ s t P Y < X) = false := decide_eq_false hwx
              clear hcy hcb hu1 s3 s4
              go_wp2_with fail
              go_region_held3 (fun w' => w'.cell? ⟨xb, 0, none⟩ = some (.int .i64 s) ∧ w'.cell? ⟨xb, 1, none⟩ = some (.int .i64 t) ∧ w'.cell? ⟨xb, 2, none⟩ = some (.slice A1 P.length c1) ∧ w'.cell? ⟨yb, yo + i, none⟩ = some (.int .i64 (gt bL k)) ∧ w'.cell? ⟨yb, yo + k, none⟩ = some (.int .i64 (gt bL i)) ∧ w'.cell? ⟨bb, bo + k, none⟩ = some (.int .i64 (gt bL k)) ∧ w'.cell? ⟨bb, bo + i, none⟩ = some (.int .i64 (gt bL i)) ∧ Below u1.heap.size u1 w')
                (first | exact held7_start x0 x1 x2 y1 y2 z1 z2 rfl | assumption | exact held7_keep x6 x6 x6 yl yl mb mb (by assumption) hbz)
                ((first | (go_at_call 40; go_fit (impl_Way s t A1 (some ⟨yb, yo, none⟩) c1 c5 P Y _ (hrdu.below (held7_bel (by assumption)) rfl) (hry.below (held7_bel (by assumption)) rfl) (by omega) (by omega)); rintro e wz ⟨rfl, hbz⟩)))
              rename_i hH
              have hbv := hbu.trans ((held7_bel hH).mono hbu.size)
              obtain ⟨m1, m2⟩ := HMV.out i k hin hkn
              obtain ⟨j0, _, j2, _, _, _, _, jb⟩ := hH
              obtain ⟨pb, po, rfl, pl, hcp⟩ := hrd5 (by omega)
              have p1 := (hbv.cell (p := ⟨pb, po + i * 2, none⟩) pl).trans (hcp i hin).1
              have p2 := (hbv.cell (p := ⟨pb, po + i * 2 + 1, none⟩) pl).trans (hcp i hin).2
              have p3 := (hbv.cell (p := ⟨pb, po + k * 2, none⟩) pl).trans (hcp k hkn).1
              have p4 := (hbv.cell (p := ⟨pb, po + k * 2 + 1, none⟩) pl).trans (hcp k hkn).2
              have mp := Nat.lt_of_lt_of_le pl hbv.size
              have mx := Nat.lt_of_lt_of_le x6 jb.size
              clear hcp hry hrdu y1 y2 z1 z2 x0 x1 x2 hwx hwx2 hyw
              go_wp2_with fail
              go_region_held3 (fun w' => w'.cell? ⟨xb, 0, none⟩ = some (.int .i64 s) ∧ w'.cell? ⟨xb, 2, none⟩ = some (.slice (some ⟨pb, po, none⟩) P.length c1) ∧ w'.cell? ⟨pb, po + i * 2, none⟩ = some (.int .i64 (tm P i)) ∧ w'.cell? ⟨pb, po + i * 2 + 1, none⟩ = some (.int .i64 (pt P i)) ∧ w'.cell? ⟨pb, po + k * 2, none⟩ = some (.int .i64 (tm P k)) ∧ w'.cell? ⟨pb, po + k * 2 + 1, none⟩ = some (.int .i64 (pt P k)) ∧ w'.cell? ⟨xb, 0, none⟩ = some (.int .i64 s) ∧ Below wz.heap.size wz w')
                (first | exact held7_start j0 j2 p1 p2 p3 p4 j0 rfl | assumption | exact held7_keep mx mx mp mp mp mp mx (by assumption) hby)
                ((first | (go_at_call 42; go_fit (impl_Move (tm P i) (pt P i) (tm P k) (pt P k) s _); rintro e wy ⟨rfl, hby⟩)))
              rename_i hH2
              have hbv2 := hbv.trans ((held7_bel hH2).mono hbv.size)
              obtain ⟨f0, f2, f3, f4, f5, f6, _, fb⟩ := hH2
              have mp2 := Nat.lt_of_lt_of_le mp fb.size
              have mx2 := Nat.lt_of_lt_of_le mx fb.size
              clear p1 p2 p3 p4 j0 j2
              go_wp2_with fail
              go_region_held3 (fun w' => w'.cell? ⟨xb, 0, none⟩ = some (.int .i64 s) ∧ w'.cell? ⟨xb, 2, none⟩ = some (.slice (some ⟨pb, po, none⟩) P.length c1) ∧ w'.cell? ⟨pb, po + i * 2, none⟩ = some (.int .i64 (tm P i)) ∧ w'.cell? ⟨pb, po + i * 2 + 1, none⟩ = some (.int .i64 (pt P i)) ∧ w'.cell? ⟨pb, po + k * 2, none⟩ = some (.int .i64 (tm P k)) ∧ w'.cell? ⟨pb, po + k * 2 + 1, none⟩ = some (.int .i64 (pt P k)) ∧ w'.cell? ⟨xb, 0, none⟩ = some (.int .i64 s) ∧ Below wy.heap.size wy w')
                (first | exact held7_start f0 f2 f3 f4 f5 f6 f0 rfl | assumption | exact held7_keep mx2 mx2 mp2 mp2 mp2 mp2 mx2 (by assumption) hbx)
                ((first | (go_at_call 42; go_fit (impl_Move (tm P k) (pt P k) (tm P i) (pt P i) s _); rintro e wx ⟨rfl, hbx⟩)))
              rename_i hH3
              have hbv3 := hbv2.trans ((held7_bel hH3).mono hbv2.size)
              go_wp2
              go_roundw
              case rel => exact ⟨k + 1, by omega, by omega, by go_num, hbv3⟩
              case measure => simp [intOf]; omega
            · obtain rfl : k = P.length := by omega
              have hkn2 : ¬ (P.length : Int) < (P.length : Int) := by omega
              go_wp2
              go_roundw
              case rel => exact ⟨i + 1, by omega, by go_num, hbk⟩
              case measure => simp [intOf]; omega
        · obtain rfl : i = P.length := by omega
          have hin2 : ¬ (P.length : Int) < (P.length : Int) := by omega
          have HTS := Lib.hid (fun k (hk : k + 1 < P.length) => trk_step HP.out hk)
          rw [← HTE.out] at HTS
          clear HMV HSW
          go_wp2
          go_loopw [15] (fun v wt => ∃ k : Nat, 1 ≤ k ∧ k ≤ max 1 P.length ∧ v = .int .i64 k ∧ Below wc.heap.size wc wt) (fun v _ => 1 + P.length - (intOf v).toNat)
          case atStart => exact ⟨1, by omega, by omega, rfl, hbi⟩
          case round =>
            obtain ⟨k, hk1, hk, rfl, hbk⟩ := hrel
            by_cases hkn : k < P.length
            · have hkn2 : (k : Int) < (P.length : Int) := by omega
              obtain ⟨m, hkm⟩ : ∃ m, k = m + 1 := ⟨k - 1, by omega⟩
              obtain ⟨x, y, hx, hy, hxP, hyP, hxy⟩ := HTS.out m (by omega)
              rw [← hkm] at hy
              have HW1 := Lib.hid (show IntKind.i64.wrap ((k : Int) - 1) = (m : Int) by rw [show ((k : Int) - 1) = (m : Int) by omega]; exact IntWalk.i64_in _ (by omega))
              obtain ⟨x0, x1, x2, _, _, _, x6⟩ := hx5.below hbk
              obtain ⟨pb, po, rfl, pl, hcp⟩ := hrd5 (by omega)
              obtain ⟨tb, to2, rfl, tl, hct⟩ := hrt5 (by have := HTL.out; omega)
              have p1 := (hbk.cell (p := ⟨pb, po + x * 2, none⟩) pl).trans (hcp x hxP).1
              have p2 := (hbk.cell (p := ⟨pb, po + x * 2 + 1, none⟩) pl).trans (hcp x hxP).2
              have p3 := (hbk.cell (p := ⟨pb, po + y * 2, none⟩) pl).trans (hcp y hyP).1
              have p4 := (hbk.cell (p := ⟨pb, po + y * 2 + 1, none⟩) pl).trans (hcp y hyP).2
              have q1 := (hbk.cell (p := ⟨tb, to2 + m, none⟩) tl).trans (hct m (by have := HTL.out; omega))
              have q2 := (hbk.cell (p := ⟨tb, to2 + k, none⟩) tl).trans (hct k (by have := HTL.out; omega))
              rw [hx] at q1
              rw [hy] at q2
              have h0a : (0 : Int) ≤ (m : Int) := by omega
              have h0b : (m : Int) < (tL.length : Int) := by have := HTL.out; omega
              have h0c : (k : Int) < (tL.length : Int) := by have := HTL.out; omega
              have h0d : (x : Int) < (P.length : Int) := by omega
              have h0e : (y : Int) < (P.length : Int) := by omega
              have h0f : (0 : Int) ≤ (k : Int) := by omega
              have h0g : (0 : Int) ≤ (x : Int) := by omega
              have h0h : (0 : Int) ≤ (y : Int) := by omega
              have mp := Nat.lt_of_lt_of_le pl hbk.size
              have mt := Nat.lt_of_lt_of_le tl hbk.size
              clear hcp hct hx hy hkm
              go_upto_region 26 with (fail)
              have hw1 := HW1.out
              go_region
              generalize hV1 : World.drew (World.alloc wr _) = V1
              have hbv1 : Below wr.heap.size wr V1 := by rw [← hV1]; exact ((Below.refl _ _).alloc (Nat.le_refl _) _).drew
              have hs1 : wr.heap.size < V1.heap.size := by rw [← hV1]; simp
              have c1 : V1.cell? ⟨wr.heap.size, 0, none⟩ = some (.int .i64 (tm P x)) := by rw [← hV1]; simp [go_sem]
              have c2 : V1.cell? ⟨wr.heap.size, 1, none⟩ = some (.int .i64 (pt P x)) := by rw [← hV1]; simp [go_sem]
              have hbk1 := hbk.trans (hbv1.mono hbk.size)
              have e2 := (hbv1.cell (p := ⟨xb, 2, none⟩) x6).trans x2
              have r3 := (hbv1.cell (p := ⟨pb, po + y * 2, none⟩) mp).trans p3
              have r4 := (hbv1.cell (p := ⟨pb, po + y * 2 + 1, none⟩) mp).trans p4
              have s2 := (hbv1.cell (p := ⟨tb, to2 + k, none⟩) mt).trans q2
              have mp1 := Nat.lt_of_lt_of_le mp hbv1.size
              have mt1 := Nat.lt_of_lt_of_le mt hbv1.size
              have mx1 := Nat.lt_of_lt_of_le x6 hbv1.size
              clear hV1 hbv1 hw1 mp mt x0 x1 x2 x6 p1 p2 p3 p4 q1 q2
              generalize wr.heap.size = ub at *
              go_upto_region 27 with (fail)
              go_region
              generalize hV2 : World.drew (World.alloc V1 _) = V2
              have hbv2 : Below V1.heap.size V1 V2 := by rw [← hV2]; exact ((Below.refl _ _).alloc (Nat.le_refl _) _).drew
              have d1 : V2.cell? ⟨V1.heap.size, 0, none⟩ = some (.int .i64 (tm P y)) := by rw [← hV2]; simp [go_sem]
              have d2 : V2.cell? ⟨V1.heap.size, 1, none⟩ = some (.int .i64 (pt P y)) := by rw [← hV2]; simp [go_sem]
              have hbk2 := hbk1.trans (hbv2.mono hbk1.size)
              have f1 := (hbv2.cell (p := ⟨ub, 0, none⟩) hs1).trans c1
              have f2 := (hbv2.cell (p := ⟨ub, 1, none⟩) hs1).trans c2
              clear hV2 hbv2 c1 c2 e2 r3 r4 s2
              rcases hxy with hlt | ⟨heq, hlt⟩
              · have z1 : ¬ tm P y < tm P x := by omega
                have z2 : decide (tm P y < tm P x) = false := decide_eq_false z1
                have z3 : (tm P x == tm P y) = false := beq_eq_false_iff_ne.2 (by omega)
                clear hlt
                go_wp2
                go_roundw
                case rel => exact ⟨k + 1, by omega, by omega, by go_num, hbk2⟩
                case measure => simp [intOf]; omega
              · have z1 : ¬ tm P y < tm P x := by omega
                have z2 : decide (tm P y < tm P x) = false := decide_eq_false z1
                have z3 : (tm P x == tm P y) = true := beq_iff_eq.2 heq
                have z4 : ¬ pt P y ≤ pt P x := by omega
                have z5 : decide (pt P y ≤ pt P x) = false := decide_eq_false z4
                clear hlt heq
                go_wp2
                go_roundw
                case rel => exact ⟨k + 1, by omega, by omega, by go_num, hbk2⟩
                case measure => simp [intOf]; omega
            · have hkn2 : ¬ (k : Int) < (P.length : Int) := by omega
              have HSO := Lib.hid (swap_out HBL.out)
              have HLW := Lib.hid (long_way (s := s) (t := t) HBL.out)
              have HLL := Lib.hid (show (bL ++ [0]).length = bL.length + 1 by simp)
              clear HTS
              go_wp2_with fail
              refine (impl_Swap A2 c2 bL 0 (P.length : Int) wr (hrb5.below hbk rfl) (by omega) hA2).mono ?_
              rintro e u1 ⟨A5, c5, rfl, _, _, _, _, _, hu1⟩
              rw [HSO.out]
              have hbu := hbk.trans (hu1.mono hbk.size)
              obtain ⟨x0, x1, x2, _, _, _, x6⟩ := hx5.below hbu
              have hrdu := hrd5.below hbu rfl
              have hrbu := hrb5.below hbu rfl
              have HBU := Lib.hid (hb5.trans (hbu.mono hb5.size))
              generalize swapZ bL 0 (P.length : Int) = ZL
              clear hu1 hbu
              go_upto_region 31 with (fail)
              cases A2 with
              | none =>
                have hbe : bL = [] := by
                  cases hc : bL with
                  | nil => rfl
                  | cons z zs =>
                    obtain ⟨_, _, he, _⟩ := hrb5 (by rw [hc]; simp)
                    cases he
                have hbz : bL.length = 0 := by rw [hbe]; rfl
                have hcz : c2 = 0 := hA2 rfl
                have HBZ := Lib.hid hbz
                have HCZ := Lib.hid hcz
                have HLW0 := Lib.hid (show wayZ s t P [0] = -1 by have := HLW.out; rw [hbe] at this; exact this)
                clear hbe hbz hcz hA2
                go_region_held3 (fun w' => w'.cell? ⟨xb, 0, none⟩ = some (.int .i64 s) ∧ w'.cell? ⟨xb, 1, none⟩ = some (.int .i64 t) ∧ w'.cell? ⟨xb, 2, none⟩ = some (.slice A1 P.length c1) ∧ Below u1.heap.size u1 w')
                  (first | exact hd3_start x0 x1 x2 rfl | exact ⟨x0, x1, x2, Below.refl _ _⟩ | assumption | exact hd3_keep x6 x6 x6 (by assumption) (((Below.refl _ _).alloc (Nat.le_refl _) _).drew) | exact hd3_keep x6 x6 x6 (by assumption) ((Below.refl _ _).alloc (Nat.le_refl _) _) | exact hd3C_keep x6 x6 x6 (by assumption) hbn1 | exact hd3C_keep x6 x6 x6 (by assumption) hbn2 | exact hd3_keep x6 x6 x6 (by assumption) hbn3)
                  (first
                    | (refine step_app_noneI_w (by kernel_rfl) (.tmp 223) (.tmp 224) _ rfl 3 Try.underlying24 (by kernel_rfl) u1.heap.size _ [] _ _ (by first | exact HBZ.out | rfl) (by first | exact HCZ.out | rfl) rfl rfl (by first | exact OwnI.lit0 u1 _ | exact (OwnI.lit0 u1 _).alloc _ | exact (iown_drew (OwnI.lit0 u1 _)).alloc _ | exact iown_one1 _ _ _) ?_)
                    | (refine step_app_ints_w (by kernel_rfl) (.tmp 225) (.tmp 226) _ rfl 3 Try.underlying24 (by kernel_rfl) u1.heap.size _ _ _ _ [] [0] _ 1 rfl rfl rfl rfl rfl (by first | exact OwnI.lit0 u1 _ | exact (OwnI.lit0 u1 _).alloc _ | exact (iown_drew (OwnI.lit0 u1 _)).alloc _ | exact iown_one1 _ _ _) (by first | exact ird_one _ _ _ | exact ird_one1 _ _ _ _ | exact ird_alloc (ird_one _ _ _) _ | exact ird_drew (ird_one1 _ _ _ _) | exact ird_drew (ird_alloc (ird_one _ _ _) _)) (by simp) (hd3_bel (by assumption)).size ?_; intro g2 c7 w2 hown2 hbn2 hgr2; rw [List.nil_append] at hown2)
                    | (go_at_call 40; refine (impl_WayN s t A1 (some ⟨g2, 0, none⟩) c1 c7 _ P [0] _ (by first | rfl | simp) (hrdu.below (hd3_bel (by assumption)) rfl) hown2.rdA (by omega) (by simp)).mono ?_; rintro e w3 ⟨rfl, hbn3⟩; rw [HLW0.out]))
                all_goals
                  have hB3 := HBU.out.trans ((hd3_bel (by assumption)).mono HBU.out.size)
                  go_wp2
                  go_ret
                  exact ⟨rfl, hB3⟩
              | some pb2 =>
                go_region_held3 (fun w' => w'.cell? ⟨xb, 0, none⟩ = some (.int .i64 s) ∧ w'.cell? ⟨xb, 1, none⟩ = some (.int .i64 t) ∧ w'.cell? ⟨xb, 2, none⟩ = some (.slice A1 P.length c1) ∧ Below u1.heap.size u1 w')
                  (first | exact hd3_start x0 x1 x2 rfl | exact ⟨x0, x1, x2, Below.refl _ _⟩ | assumption | exact hd3_keep x6 x6 x6 (by assumption) (((Below.refl _ _).alloc (Nat.le_refl _) _).drew) | exact hd3_keep x6 x6 x6 (by assumption) ((Below.refl _ _).alloc (Nat.le_refl _) _) | exact hd3C_keep x6 x6 x6 (by assumption) hbn1 | exact hd3C_keep x6 x6 x6 (by assumption) hbn2 | exact hd3_keep x6 x6 x6 (by assumption) hbn3)
                  (first
                    | (refine step_app_ints_w (by kernel_rfl) (.tmp 223) (.tmp 224) _ rfl 3 Try.underlying24 (by kernel_rfl) u1.heap.size _ _ _ bL.length [] bL (some pb2) c2 rfl rfl rfl rfl rfl (by first | exact OwnI.lit0 u1 _ | exact (OwnI.lit0 u1 _).alloc _ | exact (iown_drew (OwnI.lit0 u1 _)).alloc _ | exact iown_one1 _ _ _) (hrbu.below (hd3_bel (by assumption)) rfl) (by simp; omega) (hd3_bel (by assumption)).size ?_; intro g1 c6 w1 hown1 hbn1 hgr1)
                    | (refine step_app_ints_w (by kernel_rfl) (.tmp 225) (.tmp 226) _ rfl 3 Try.underlying24 (by kernel_rfl) u1.heap.size g1 c6 _ _ ([] ++ bL) [0] _ 1 rfl rfl rfl rfl rfl (by first | exact hown1 | exact hown1.alloc _) (by first | exact ird_one _ _ _ | exact ird_kept (ird_one1 _ _ _ _) hgr1 (by omega) | exact ird_kept (ird_alloc (ird_one _ _ _) _) hgr1 (by omega) | exact ird_kept (ird_drew (ird_one1 _ _ _ _)) hgr1 (by omega) | exact ird_kept (ird_drew (ird_alloc (ird_one _ _ _) _)) hgr1 (by omega) | exact ird_kept (ird_drew (ird_alloc (ird_drew (ird_one _ _ _)) _)) hgr1 (by omega)) (by simp; omega) (hd3_bel (by assumption)).size ?_; intro g2 c7 w2 hown2 hbn2 hgr2; rw [List.nil_append] at hown2)
                    | (go_at_call 40; refine (impl_WayN s t A1 (some ⟨g2, 0, none⟩) c1 c7 (bL.length + 1) P (bL ++ [0]) _ HLL.out (hrdu.below (hd3_bel (by assumption)) rfl) hown2.rdA (by omega) (by have := HLL.out; omega)).mono ?_; rintro e w3 ⟨rfl, hbn3⟩; rw [HLW.out]))
                all_goals
                  have hB3 := HBU.out.trans ((hd3_bel (by assumption)).mono HBU.out.size)
                  go_wp2
                  go_ret
                  exact ⟨rfl, hB3⟩
  · go_enter Try.func6, Try.ntmps6
    go_wp2_with fail
    refine (big_yes A n c w hn).mono ?_
    rintro e wz ⟨rfl, rfl⟩
    go_wp2
    go_ret
    exact ⟨rfl, Below.refl _ _⟩
end Go.Proofs.Ytkbceojeahninaa
