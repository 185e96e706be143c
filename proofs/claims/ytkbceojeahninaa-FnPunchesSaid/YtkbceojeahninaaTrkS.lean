/- The order of the pins by their tracks: the reference. -/
import Derived.Test.YtkbceojeahninaaTrk
import Derived.Test.YtkbceojeahninaaApp
namespace Go.Proofs.Ytkbceojeahninaa
open Go.ChangeShapes Go.WideShapes Go.ChangeAt Go.RowKit
set_option linter.unusedVariables false
theorem trkI_len (P : List (Int × Int)) (t : Int) (acc : List Int) : ∀ k, (trkI P t acc k).length ≤ acc.length + k
  | 0 => Nat.le_refl _
  | k + 1 => by have := trkI_len P t acc k; unfold trkI; split <;> simp <;> omega
theorem trkT_len (P : List (Int × Int)) : ∀ t, (trkT P t).length ≤ P.length * t
  | 0 => Nat.zero_le _
  | t + 1 => by
    have h1 := trkT_len P t
    have h2 := trkI_len P (t : Int) (trkT P t) P.length
    rw [Nat.mul_succ]
    show (trkI P (t : Int) (trkT P t) P.length).length ≤ _
    omega
theorem trkT_len2 {P : List (Int × Int)} {t : Nat} (h : P.length ≤ 100) (ht : t ≤ 100) : (trkT P t).length ≤ 10000 := by
  have h1 := trkT_len P t
  have h2 := Nat.mul_le_mul h ht
  omega
theorem trkI_yes {P : List (Int × Int)} {t : Int} {acc : List Int} {k : Nat} (h : tm P k = t) : trkI P t acc (k + 1) = trkI P t acc k ++ [(k : Int)] := if_pos h
theorem trkI_no {P : List (Int × Int)} {t : Int} {acc : List Int} {k : Nat} (h : ¬ tm P k = t) : trkI P t acc (k + 1) = trkI P t acc k := if_neg h
theorem cyl_t {s t : Int} {P : List (Int × Int)} (h : cylB s t P = true) : 1 ≤ t ∧ t ≤ 100 := (of_decide_eq_true h : cylP s t P).2.1
theorem trkL_len (s t : Int) (P : List (Int × Int)) : (trkL s t P).length ≤ 10000 := by
  cases h : cylB s t P
  · rw [trkL_no h]; exact Nat.zero_le _
  · rw [trkL_yes h]
    have := cyl_t h
    exact trkT_len2 (cyl_len h) (by omega)
attribute [local irreducible] tm pt gt cylB trkT trkI trkL in
set_option maxHeartbeats 3200000 in
theorem spec_Trk (s t : Int) (A : Option Addr) (c : Nat) (P : List (Int × Int)) (w : World) (hrd : RdN w A P) (hP : P.length ≤ 1000000000) :
    Calls Try.prog 44 #[.agg #[.int .i64 s, .int .i64 t, .slice A P.length c]] w (RetI 3 w.heap.size (trkL s t P) w) := by
  obtain ⟨W0, hW0⟩ : ∃ W, W = w.alloc (.cells #[.int .i64 s, .int .i64 t, .slice A P.length c] 56) := ⟨_, rfl⟩
  have hb0 : Below w.heap.size w W0 := by rw [hW0]; exact (Below.refl _ _).alloc (Nat.le_refl _) _
  have s0 : w.heap.size < W0.heap.size := by rw [hW0]; simp
  have a0 : W0.cell? ⟨w.heap.size, 0, none⟩ = some (.int .i64 s) := by rw [hW0]; simp [go_sem]
  have a1 : W0.cell? ⟨w.heap.size, 1, none⟩ = some (.int .i64 t) := by rw [hW0]; simp [go_sem]
  have a2 : W0.cell? ⟨w.heap.size, 2, none⟩ = some (.slice A P.length c) := by rw [hW0]; simp [go_sem]
  have hrd0 := hrd.below hb0 rfl
  obtain ⟨W1, hW1⟩ : ∃ W, W = W0.alloc (.cells #[] 3) := ⟨_, rfl⟩
  have hb1 : Below W0.heap.size W0 W1 := by rw [hW1]; exact (Below.refl _ _).alloc (Nat.le_refl _) _
  have s1 : W0.heap.size < W1.heap.size := by rw [hW1]; simp
  have ho1 : OwnI 3 W0.heap.size W1 (.slice (some ⟨W0.heap.size, 0, none⟩) 0 0) [] := by rw [hW1]; exact OwnI.lit0 _ _
  have HW1 := Lib.hid (show W1 = (w.alloc (.cells #[.int .i64 s, .int .i64 t, .slice A P.length c] 56)).alloc (.cells #[] 3) by rw [hW1, hW0])
  have HS0 := Lib.hid (show W0.heap.size = w.heap.size + 1 by rw [hW0]; simp)
  have ho1b : OwnI 3 W0.heap.size W1 (.slice (some ⟨w.heap.size + 1, 0, none⟩) 0 0) [] := by rw [← HS0.out]; exact ho1
  have hs0 := Nat.le_of_lt s0
  have b0 := (hb1.cell (p := ⟨w.heap.size, 0, none⟩) s0).trans a0
  have b1 := (hb1.cell (p := ⟨w.heap.size, 1, none⟩) s0).trans a1
  have b2 := (hb1.cell (p := ⟨w.heap.size, 2, none⟩) s0).trans a2
  clear hW0 hrd hW1 a0 a1 a2
  cases hC : cylB s t P
  · have HF := Lib.hid (trkL_no hC)
    have HC := Lib.hid hC
    clear hC
    go_enter Try.func44, Try.ntmps44
    go_upto_region 2 with (fail)
    rw [← HW1.out]
    go_wp2
    go_loopw [3, 4] (fun v i wr => v = .slice (some ⟨w.heap.size + 1, 0, none⟩) 0 0 ∧ i = .int .i64 0 ∧ Below W1.heap.size W1 wr) (fun _ _ _ => 0)
    case atStart => exact ⟨rfl, rfl, Below.refl _ _⟩
    case round =>
      obtain ⟨rfl, rfl, hb⟩ := hrel
      have e0 := (hb.cell (p := ⟨w.heap.size, 0, none⟩) (Nat.lt_trans s0 s1)).trans b0
      have e1 := (hb.cell (p := ⟨w.heap.size, 1, none⟩) (Nat.lt_trans s0 s1)).trans b1
      have e2 := (hb.cell (p := ⟨w.heap.size, 2, none⟩) (Nat.lt_trans s0 s1)).trans b2
      have hb02 := hb1.trans (hb.mono (Nat.le_of_lt s1))
      by_cases ht : 0 < t
      · go_wp2_with fail
        refine (spec_CylOk s t A c P wr (hrd0.below hb02 rfl) hP).mono ?_
        rintro e w2 ⟨rfl, hb2⟩
        rw [HC.out]
        have hbF := hb0.trans ((hb02.trans (hb2.mono hb02.size)).mono hs0)
        have hoF := ((ho1b.below hb rfl).below hb2 rfl).base_le (B' := w.heap.size) hs0
        clear ho1b ho1
        go_wp2
        go_ret
        rw [HF.out]
        exact RetI.mk hoF hbF
      · have hbF := hb0.trans (hb02.mono hs0)
        have hoF := (ho1b.below hb rfl).base_le (B' := w.heap.size) hs0
        clear ho1b ho1
        go_wp2
        go_ret
        rw [HF.out]
        exact RetI.mk hoF hbF
  · have hP100 := cyl_len hC
    obtain ⟨ht1, ht2⟩ := cyl_t hC
    have HF := Lib.hid (trkL_yes hC)
    have HC := Lib.hid hC
    have HZ := Lib.hid (show trkT P 0 = [] by unfold trkT; rfl)
    have HTL := Lib.hid (fun T (h : T ≤ 100) => trkT_len2 hP100 h)
    have HTS := Lib.hid (fun T => show trkT P (T + 1) = trkI P (T : Int) (trkT P T) P.length by rw [trkT])
    clear hC
    go_enter Try.func44, Try.ntmps44
    go_upto_region 2 with (fail)
    rw [← HW1.out]
    go_wp2
    go_loopw [3, 4] (fun v i wr => ∃ T : Nat, (T : Int) ≤ t ∧ i = .int .i64 T ∧ OwnI 3 W0.heap.size wr v (trkT P T) ∧ Below W0.heap.size W0 wr) (fun _ i _ => t.toNat - (intOf i).toNat)
    case atStart => exact ⟨0, by omega, rfl, by rw [HZ.out]; exact ho1b, hb1⟩
    case round =>
      clear ho1 ho1b
      obtain ⟨T, hT, rfl, ho, hb⟩ := hrel
      have e0 := (hb.cell (p := ⟨w.heap.size, 0, none⟩) s0).trans (((hb1.cell (p := ⟨w.heap.size, 0, none⟩) s0)).symm.trans b0)
      have e1 := (hb.cell (p := ⟨w.heap.size, 1, none⟩) s0).trans (((hb1.cell (p := ⟨w.heap.size, 1, none⟩) s0)).symm.trans b1)
      have e2 := (hb.cell (p := ⟨w.heap.size, 2, none⟩) s0).trans (((hb1.cell (p := ⟨w.heap.size, 2, none⟩) s0)).symm.trans b2)
      by_cases hlt : (T : Int) < t
      · have htl := HTL.out T (by omega)
        go_wp2_with fail
        refine (spec_CylOk s t A c P wr (hrd0.below hb rfl) hP).mono ?_
        rintro e w2 ⟨rfl, hb2⟩
        rw [HC.out]
        have ho2 := ho.below hb2 rfl
        have hb02 := hb.trans (hb2.mono hb.size)
        have HSU := Lib.hid (HTS.out T)
        obtain ⟨acc, hacc⟩ : ∃ acc, acc = trkT P T := ⟨_, rfl⟩
        rw [← hacc] at ho2 htl HSU
        have HI0 := Lib.hid (show trkI P (T : Int) acc 0 = acc by unfold trkI; rfl)
        have HIL := Lib.hid (fun k => trkI_len P (T : Int) acc k)
        clear ho hb hb2 hacc e0 e1 e2
        obtain ⟨wo, hwo⟩ : ∃ wo, wo = w2 := ⟨_, rfl⟩
        subst hwo
        go_wp2
        go_loopw [3, 5] (fun v i wt => ∃ k : Nat, k ≤ P.length ∧ i = .int .i64 k ∧ OwnI 3 W0.heap.size wt v (trkI P (T : Int) acc k) ∧ Below W0.heap.size W0 wt) (fun _ i _ => P.length - (intOf i).toNat)
        case atStart => exact ⟨0, by omega, rfl, by rw [HI0.out]; exact ho2, hb02⟩
        case round =>
          clear ho2 hb02
          obtain ⟨k, hk, rfl, ho, hb⟩ := hrel
          have e2 := (hb.cell (p := ⟨w.heap.size, 2, none⟩) s0).trans (((hb1.cell (p := ⟨w.heap.size, 2, none⟩) s0)).symm.trans b2)
          have hil := HIL.out k
          have hbs := hb.size
          by_cases hkl : k < P.length
          · obtain ⟨pb, po, rfl, pl, hcp⟩ := hrd0 (by omega)
            have k1 := (hb.cell (p := ⟨pb, po + k * 2, none⟩) pl).trans (hcp k hkl).1
            have h0i : (0 : Int) ≤ (k : Int) := by omega
            have h0j : (k : Int) < (P.length : Int) := by omega
            clear hcp
            by_cases he : tm P k = (T : Int)
            · have q1 : (tm P k == (T : Int)) = true := by simpa using he
              have HY := Lib.hid (trkI_yes (acc := acc) he)
              clear he
              go_wp2_with (at_builtin; refine app_int rfl _ _ 24 rfl 3 Try.underlying24 (by kernel_rfl) W0.heap.size _ (trkI P (T : Int) acc k) (k : Int) ho rfl rfl (by omega) hbs ?_; intro v' w4 hown1 hb4)
              have hbb := hb.trans hb4
              go_roundw
              case rel => exact ⟨k + 1, by omega, by go_num, by rw [HY.out]; exact hown1, hbb⟩
              case measure => simp [intOf]; omega
            · have q1 : (tm P k == (T : Int)) = false := by simpa using he
              have HY := Lib.hid (trkI_no (acc := acc) he)
              clear he
              go_wp2
              go_roundw
              case rel => exact ⟨k + 1, by omega, by go_num, by rw [HY.out]; exact ho, hb⟩
              case measure => simp [intOf]; omega
          · obtain rfl : k = P.length := by omega
            have h0j : ¬ (P.length : Int) < (P.length : Int) := by omega
            go_wp2
            go_roundw
            case rel => exact ⟨T + 1, by omega, by go_num, by rw [HSU.out]; exact ho, hb⟩
            case measure => simp [intOf]; omega
      · have HTT := Lib.hid (show trkL s t P = trkT P T by rw [HF.out, show t.toNat = T by omega])
        have hbF := hb0.trans (hb.mono hs0)
        have hoF := ho.base_le (B' := w.heap.size) hs0
        go_wp2
        go_ret
        rw [HTT.out]
        exact RetI.mk hoF hbF
end Go.Proofs.Ytkbceojeahninaa
