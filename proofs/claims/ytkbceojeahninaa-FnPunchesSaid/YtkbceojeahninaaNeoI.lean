/- The nearest order: the program. -/
import Derived.Test.YtkbceojeahninaaNeo
namespace Go.Proofs.Ytkbceojeahninaa
open Go.ChangeShapes Go.WideShapes Go.ChangeAt Go.RowKit
set_option linter.unusedVariables false
def slen : Value → Nat
  | .slice _ n _ => n
  | _ => 0
attribute [local irreducible] tm pt gt cylB nbB nbL neaTo mvZ moveZ hasL cstZ in
set_option maxHeartbeats 3200000 in
theorem impl_Neo (s t : Int) (A : Option Addr) (c : Nat) (P : List (Int × Int)) (w : World) (hrd : RdN w A P) (hP : P.length ≤ 1000000000) :
    Calls Try.prog 38 #[.agg #[.int .i64 s, .int .i64 t, .slice A P.length c]] w (RetI 3 w.heap.size (neaZ s t P) w) := by
  obtain ⟨W0, hW0⟩ : ∃ W, W = w.alloc (.cells #[.int .i64 s, .int .i64 t, .slice A P.length c] 56) := ⟨_, rfl⟩
  have hb0 : Below w.heap.size w W0 := by rw [hW0]; exact (Below.refl _ _).alloc (Nat.le_refl _) _
  have s0 : w.heap.size < W0.heap.size := by rw [hW0]; simp
  have a0 : W0.cell? ⟨w.heap.size, 0, none⟩ = some (.int .i64 s) := by rw [hW0]; simp [go_sem]
  have a1 : W0.cell? ⟨w.heap.size, 1, none⟩ = some (.int .i64 t) := by rw [hW0]; simp [go_sem]
  have a2 : W0.cell? ⟨w.heap.size, 2, none⟩ = some (.slice A P.length c) := by rw [hW0]; simp [go_sem]
  have hrd0 := hrd.below hb0 rfl
  have HW0 := Lib.hid hW0
  clear hW0 hrd
  cases hC : cylB s t P
  · have HF := Lib.hid (neaZ_no hC)
    have HC := Lib.hid hC
    clear hC
    go_enter Try.func38, Try.ntmps38
    go_wp2_with fail
    rw [← HW0.out]
    refine (impl_CylOk _ _ _ _ _ _ hrd0 hP).mono ?_
    rintro e w1 ⟨rfl, hb1⟩
    rw [HC.out]
    have hbF := hb0.trans (hb1.mono (Nat.le_of_lt s0))
    go_wp2
    go_ret
    rw [HF.out]
    exact RetI.mk (OwnI.nil0 _ _ _) hbF
  · have hP100 := cyl_len hC
    have HF := Lib.hid (neaZ_yes hC)
    have HC := Lib.hid hC
    have HZ0 := Lib.hid (show neaTo s P 0 = [] by rw [neaTo])
    have HLN := Lib.hid (nea_len s P)
    have HOK := Lib.hid (nea_ok s P)
    have HNX := Lib.hid (nea_succ s P)
    clear hC
    go_enter Try.func38, Try.ntmps38
    go_wp2_with fail
    rw [← HW0.out]
    refine (impl_CylOk _ _ _ _ _ _ hrd0 hP).mono ?_
    rintro e w1 ⟨rfl, hb1⟩
    rw [HC.out]
    have ho1 := (OwnI.lit0 w1 3).base_le hb1.size
    have hb01 := hb1.alloc hb1.size (.cells #[] 3)
    go_wp2
    go_loopw [3] (fun v wr => ∃ (j : Nat) (Ao : Option Addr) (co : Nat), j ≤ P.length ∧ v = .slice Ao (neaTo s P j).length co ∧ OwnI 3 W0.heap.size wr (.slice Ao (neaTo s P j).length co) (neaTo s P j) ∧ Below W0.heap.size W0 wr) (fun v _ => P.length - slen v)
    case atStart => exact ⟨0, _, _, by omega, by rw [HZ0.out]; rfl, by rw [HZ0.out]; exact ho1, hb01⟩
    case round =>
      clear ho1 hb01
      obtain ⟨j, Ao, co, hj, rfl, ho, hb⟩ := hrel
      have hbs := hb.size
      have e2 := (hb.cell (p := ⟨w.heap.size, 2, none⟩) s0).trans a2
      by_cases hlt : j < P.length
      · have HD := Lib.hid (HNX.out j)
        have hDl : (neaTo s P j).length ≤ j := by rw [HLN.out]; omega
        have hDu : j ≤ (neaTo s P j).length := by rw [HLN.out]; omega
        have HO := Lib.hid (HOK.out j hj)
        have HLN1 := Lib.hid (HLN.out (j + 1))
        obtain ⟨D, hD⟩ : ∃ D, D = neaTo s P j := ⟨_, rfl⟩
        rw [← hD] at HD hDl hDu ho HO ⊢
        clear hD
        have HI := Lib.hid (nb_inv s P D)
        have HZ := Lib.hid (nb_zero s P D)
        have hDP : (D.length : Int) < (P.length : Int) := by omega
        have hDP2 : D.length < P.length := by omega
        have HNB := Lib.hid (nb_pos (s := s) hDP2)
        obtain ⟨wo, hwo⟩ : ∃ wo, wo = wr := ⟨wr, rfl⟩
        subst hwo
        go_wp2
        go_loopw [4, 5, 22] (fun u v i wt => ∃ k : Nat, k ≤ P.length ∧ u = .int .i64 (nbB s P D k) ∧ v = .int .i64 (nbL s P D k) ∧ i = .int .i64 k ∧ Below wo.heap.size wo wt) (fun _ _ i _ => P.length - (intOf i).toNat)
        case atStart => exact ⟨0, by omega, by rw [HZ.out.1], by rw [HZ.out.2], rfl, Below.refl _ _⟩
        case round =>
          obtain ⟨k, hk, rfl, rfl, rfl, hbt⟩ := hrel
          have hbT := hb.trans (hbt.mono hbs)
          have hbTs := hbT.size
          have hoT := ho.below hbt rfl
          by_cases hkl : k < P.length
          · obtain ⟨b, o, rfl, lb, hc⟩ := hrd0 (by omega)
            have e0 := (hbT.cell (p := ⟨w.heap.size, 0, none⟩) s0).trans a0
            have e2' := (hbT.cell (p := ⟨w.heap.size, 2, none⟩) s0).trans a2
            have k1 := (hbT.cell (p := ⟨b, o + k * 2, none⟩) lb).trans (hc k hkl).1
            have k2 := (hbT.cell (p := ⟨b, o + k * 2 + 1, none⟩) lb).trans (hc k hkl).2
            have hi := HI.out k
            have hi1 := hi.1
            have hi4 := hi.2.2.2
            obtain ⟨W, hW⟩ : ∃ W, W = wr.alloc (Obj.cells #[.int .i64 (tm P k), .int .i64 (pt P k)] 65) := ⟨_, rfl⟩
            have hBW : Below wr.heap.size wr W := by rw [hW]; exact (Below.refl _ _).alloc (Nat.le_refl _) _
            have n1 : W.cell? ⟨wr.heap.size, 0, none⟩ = some (.int .i64 (tm P k)) := by rw [hW]; simp [go_sem]
            have n2 : W.cell? ⟨wr.heap.size, 1, none⟩ = some (.int .i64 (pt P k)) := by rw [hW]; simp [go_sem]
            have nb : wr.heap.size < W.heap.size := by rw [hW]; simp
            have qr : w.heap.size < wr.heap.size := by omega
            have br : b < wr.heap.size := by omega
            have x0 := (hBW.cell (p := ⟨w.heap.size, 0, none⟩) qr).trans e0
            have x2 := (hBW.cell (p := ⟨w.heap.size, 2, none⟩) qr).trans e2'
            have hbtW := hbt.trans (hBW.mono hbt.size)
            have hbTW := hbT.trans (hBW.mono hbT.size)
            have hoW := hoT.below hBW rfl
            have q0 : w.heap.size < W.heap.size := by omega
            have mW : b < W.heap.size := by omega
            have HW := Lib.hid hW
            clear hW hBW e0 e2' hi
            cases hh : hasL D (k : Int)
            · have HH := Lib.hid hh
              clear hh
              rcases Nat.eq_zero_or_pos D.length with hz | hz
              · have HC := Lib.hid (show cstZ s P D k = 0 by unfold cstZ; rw [if_pos hz])
                have hz0 : ¬ (0 : Int) < (D.length : Int) := by omega
                have hz1 : decide ((0 : Int) < (D.length : Int)) = false := decide_eq_false hz0
                have hz2 : decide (0 < D.length) = false := decide_eq_false (by omega)
                clear hz hc
                go_upto_region 10 with (fail)
                rw [← HW.out]
                go_wp2_with fail
                refine (holdsL_any _ _ _ _ _ hoW.rdA (by omega)).mono ?_
                rintro e wz ⟨rfl, rfl⟩
                rw [HH.out]
                by_cases h1 : nbB s P D k < 0
                · skip
                  have HE := Lib.hid (nb_yes HH.out (Or.inl h1))
                  go_wp2
                  go_roundw
                  case rel => exact ⟨k + 1, by omega, by rw [HE.out.1], by rw [HE.out.2, HC.out], by go_num, hbtW⟩
                  case measure => simp [intOf]; omega
                · by_cases h2 : 0 < nbL s P D k
                  · skip
                    have HE := Lib.hid (nb_yes HH.out (Or.inr (by rw [HC.out]; exact h2)))
                    go_wp2
                    go_roundw
                    case rel => exact ⟨k + 1, by omega, by rw [HE.out.1], by rw [HE.out.2, HC.out], by go_num, hbtW⟩
                    case measure => simp [intOf]; omega
                  · skip
                    have HE := Lib.hid (nb_no HH.out (fun h => h.elim h1 (by rw [HC.out]; exact h2)))
                    go_wp2
                    go_roundw
                    case rel => exact ⟨k + 1, by omega, by rw [HE.out.1], by rw [HE.out.2], by go_num, hbtW⟩
                    case measure => simp [intOf]; omega
              · obtain ⟨m, hm⟩ : ∃ m, D.length = m + 1 := ⟨D.length - 1, by omega⟩
                have hxr := HO.out.2 (gt D m) (gt_mem.2 ⟨m, by omega, rfl⟩)
                obtain ⟨x, hx⟩ : ∃ x : Nat, gt D m = (x : Int) := ⟨(gt D m).toNat, by omega⟩
                have hxP : x < P.length := by omega
                have HC := Lib.hid (show cstZ s P D k = mvZ s P x k by unfold cstZ; rw [if_neg (by omega), show D.length - 1 = m by omega, hx]; rfl)
                have hz0 : (0 : Int) < (D.length : Int) := by omega
                have hoW' := hoW
                obtain ⟨g, rfl, hgb, hgl, hcg, _⟩ := hoW.head (by omega)
                have d1 := hcg m (by omega)
                rw [hx] at d1
                have p1 := (hbTW.cell (p := ⟨b, o + x * 2, none⟩) lb).trans (hc x hxP).1
                have p2 := (hbTW.cell (p := ⟨b, o + x * 2 + 1, none⟩) lb).trans (hc x hxP).2
                have h0a : (0 : Int) ≤ (m : Int) := by omega
                have h0b : (m : Int) < (D.length : Int) := by omega
                have h0d : (x : Int) < (P.length : Int) := by omega
                have h0g : (0 : Int) ≤ (x : Int) := by omega
                have HW1 := Lib.hid (show IntKind.i64.wrap ((D.length : Int) - 1) = (m : Int) by rw [show ((D.length : Int) - 1) = (m : Int) by omega]; exact IntWalk.i64_in _ (by omega))
                have HMV := Lib.hid (show moveZ (tm P x) (pt P x) (tm P k) (pt P k) s = mvZ s P x k by unfold mvZ; rfl)
                clear hz hc hcg hx hxr hm
                go_upto_region 10 with (fail)
                rw [← HW.out]
                go_wp2_with fail
                refine (holdsL_any _ _ _ _ _ hoW'.rdA (by omega)).mono ?_
                rintro e wz ⟨rfl, rfl⟩
                rw [HH.out]
                go_wp2_with fail
                have hw1 := HW1.out
                go_region_held3 (fun w' => w'.cell? ⟨w.heap.size, 0, none⟩ = some (.int .i64 s) ∧ w'.cell? ⟨w.heap.size, 2, none⟩ = some (.slice (some ⟨b, o, none⟩) P.length c) ∧ w'.cell? ⟨b, o + x * 2, none⟩ = some (.int .i64 (tm P x)) ∧ w'.cell? ⟨b, o + x * 2 + 1, none⟩ = some (.int .i64 (pt P x)) ∧ w'.cell? ⟨wr.heap.size, 0, none⟩ = some (.int .i64 (tm P k)) ∧ w'.cell? ⟨wr.heap.size, 1, none⟩ = some (.int .i64 (pt P k)) ∧ w'.cell? ⟨g, m, none⟩ = some (.int .i64 (x : Int)) ∧ Below W.heap.size W w') (first | exact held7_start x0 x2 p1 p2 n1 n2 d1 rfl | assumption | exact held7_keep q0 q0 mW mW nb nb hgl (by assumption) hbz)
                  ((go_at_call 42; refine (impl_Move _ _ _ _ _ _).mono ?_; rintro e wz ⟨rfl, hbz⟩; rw [HMV.out]))
                clear hw1
                rename_i hH
                have hbt2 := hbtW.trans ((held7_bel hH).mono hbtW.size)
                clear hH
                by_cases h1 : nbB s P D k < 0
                · skip
                  have HE := Lib.hid (nb_yes HH.out (Or.inl h1))
                  go_wp2
                  go_roundw
                  case rel => exact ⟨k + 1, by omega, by rw [HE.out.1], by rw [HE.out.2, HC.out], by go_num, hbt2⟩
                  case measure => simp [intOf]; omega
                · by_cases h2 : mvZ s P x k < nbL s P D k
                  · skip
                    have HE := Lib.hid (nb_yes HH.out (Or.inr (by rw [HC.out]; exact h2)))
                    go_wp2
                    go_roundw
                    case rel => exact ⟨k + 1, by omega, by rw [HE.out.1], by rw [HE.out.2, HC.out], by go_num, hbt2⟩
                    case measure => simp [intOf]; omega
                  · skip
                    have HE := Lib.hid (nb_no HH.out (fun h => h.elim h1 (by rw [HC.out]; exact h2)))
                    go_wp2
                    go_roundw
                    case rel => exact ⟨k + 1, by omega, by rw [HE.out.1], by rw [HE.out.2], by go_num, hbt2⟩
                    case measure => simp [intOf]; omega
            · have HE := Lib.hid (nb_has (s := s) (P := P) hh)
              have HH := Lib.hid hh
              clear hh hc
              go_upto_region 10 with (fail)
              rw [← HW.out]
              go_wp2_with fail
              refine (holdsL_any _ _ _ _ _ hoW.rdA (by omega)).mono ?_
              rintro e wz ⟨rfl, rfl⟩
              rw [HH.out]
              go_wp2
              go_roundw
              case rel => exact ⟨k + 1, by omega, by rw [HE.out.1], by rw [HE.out.2], by go_num, hbtW⟩
              case measure => simp [intOf]; omega
          · obtain rfl : k = P.length := by omega
            go_wp2_with (at_builtin; refine app_int rfl _ _ 24 rfl 3 Try.underlying24 (by kernel_rfl) W0.heap.size _ D (nbB s P D P.length) hoT rfl rfl (by omega) hbTs ?_; intro v' w5 hown5 hb5)
            rw [← HD.out] at hown5
            obtain ⟨A5, c5, rfl, _, _, _⟩ := hown5.rd
            have hb05 := hbT.trans hb5
            go_roundw
            case rel => exact ⟨j + 1, A5, c5, by omega, rfl, hown5, hb05⟩
            case measure => simp [slen]; rw [HLN1.out]; omega
      · obtain rfl : j = P.length := by omega
        have hge : ¬ ((neaTo s P P.length).length : Int) < (P.length : Int) := by rw [HLN.out]; omega
        have hbF := hb0.trans (hb.mono (Nat.le_of_lt s0))
        have hoF := ho.base_le (Nat.le_of_lt s0)
        go_wp2
        go_ret
        rw [HF.out]
        exact RetI.mk hoF hbF
end Go.Proofs.Ytkbceojeahninaa
