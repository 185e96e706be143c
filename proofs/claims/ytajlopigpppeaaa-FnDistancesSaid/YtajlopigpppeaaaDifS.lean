/- spec.DiffTimes: the times at which two tunes differ. -/
import Derived.Test.YtajlopigpppeaaaNatW
namespace Go.Proofs.Ytajlopigpppeaaa
open Go.ChangeShapes Go.WideShapes Go.ChangeAt Go.RowKit
set_option linter.unusedVariables false
theorem smI_iff {a b : List Int} : smI a b = true ↔ a = b := by unfold smI; rw [decide_eq_true_iff]
attribute [local irreducible] tm pt gt tuneB natB difTo smI in
set_option maxHeartbeats 1600000 in
theorem spec_Dif (A B : Option Addr) (c d : Nat) (a b : List (Int × Int)) (w : World) (hra : RdN w A a) (hrb : RdN w B b) (hla : a.length ≤ 1000000000) (hlb : b.length ≤ 1000000000) :
    Calls Try.prog 12 #[.slice A a.length c, .slice B b.length d] w (RetI 3 w.heap.size (difZ a b) w) := by
  have hz := OwnI.lit0 w 3
  have hbz : Below w.heap.size w (w.alloc (.cells #[] 3)) := (Below.refl _ _).alloc (Nat.le_refl _) _
  cases h1 : tuneB a
  · have HV := Lib.hid (difZ_no (a := a) (b := b) (by rw [h1]; simp))
    have H1 := Lib.hid h1
    clear h1
    go_enter Try.func12, Try.ntmps12
    go_wp2
    go_loopw [5, 6] (fun v i wr => v = .slice (some ⟨w.heap.size, 0, none⟩) 0 0 ∧ i = .int .i64 0 ∧ OwnI 3 w.heap.size wr (.slice (some ⟨w.heap.size, 0, none⟩) 0 0) [] ∧ Below w.heap.size w wr) (fun _ i _ => 0)
    case atStart => exact ⟨rfl, rfl, hz, hbz⟩
    case round =>
      obtain ⟨rfl, rfl, ho, hb⟩ := hrel
      clear hz hbz
      go_wp2_with fail
      refine (spec_TuneOk _ _ _ _ (hra.below hb rfl) (by omega)).mono ?_
      rintro e w1 ⟨rfl, hb1⟩
      rw [H1.out]
      have ho2 := ho.below hb1 rfl
      have hb2 := hb.trans (hb1.mono hb.size)
      go_wp2
      go_ret
      rw [HV.out]
      exact RetI.mk ho2 hb2
  · cases h2 : tuneB b
    · have HV := Lib.hid (difZ_no (a := a) (b := b) (by rw [h2]; simp))
      have H1 := Lib.hid h1
      have H2 := Lib.hid h2
      clear h1 h2
      go_enter Try.func12, Try.ntmps12
      go_wp2
      go_loopw [5, 6] (fun v i wr => v = .slice (some ⟨w.heap.size, 0, none⟩) 0 0 ∧ i = .int .i64 0 ∧ OwnI 3 w.heap.size wr (.slice (some ⟨w.heap.size, 0, none⟩) 0 0) [] ∧ Below w.heap.size w wr) (fun _ i _ => 0)
      case atStart => exact ⟨rfl, rfl, hz, hbz⟩
      case round =>
        obtain ⟨rfl, rfl, ho, hb⟩ := hrel
        clear hz hbz
        go_wp2_with fail
        refine (spec_TuneOk _ _ _ _ (hra.below hb rfl) (by omega)).mono ?_
        rintro e w1 ⟨rfl, hb1⟩
        rw [H1.out]
        have ho2 := ho.below hb1 rfl
        have hb2 := hb.trans (hb1.mono hb.size)
        go_wp2_with fail
        refine (spec_TuneOk _ _ _ _ (hrb.below hb2 rfl) (by omega)).mono ?_
        rintro e w2 ⟨rfl, hb3⟩
        rw [H2.out]
        have ho3 := ho2.below hb3 rfl
        have hb4 := hb2.trans (hb3.mono hb2.size)
        go_wp2
        go_ret
        rw [HV.out]
        exact RetI.mk ho3 hb4
    · have HV := Lib.hid (difZ_yes ⟨h1, h2⟩)
      have H1 := Lib.hid h1
      have H2 := Lib.hid h2
      have HZ0 := Lib.hid (show difTo a b (fun k => (k : Int)) 0 = [] by unfold difTo; rfl)
      have HL := Lib.hid (difTo_len a b (fun k => (k : Int)))
      have HLA := Lib.hid (fun t => natB_len a t)
      have HLB := Lib.hid (fun t => natB_len b t)
      clear h1 h2
      go_enter Try.func12, Try.ntmps12
      go_wp2
      go_loopw [5, 6] (fun v i wr => ∃ k : Nat, k ≤ 1001 ∧ i = .int .i64 k ∧ OwnI 3 w.heap.size wr v (difTo a b (fun k => (k : Int)) k) ∧ Below w.heap.size w wr) (fun _ i _ => 1001 - (intOf i).toNat)
      case atStart => exact ⟨0, by omega, rfl, by rw [HZ0.out]; exact hz, hbz⟩
      case round =>
        obtain ⟨k, hk, rfl, ho, hb⟩ := hrel
        clear hz hbz
        by_cases hlt : k ≤ 1000
        · have hki : (k : Int) ≤ 1000 := by omega
          have hlen := HL.out k
          have HY := Lib.hid (fun h => (dif_yes (a := a) (b := b) (f := fun k => (k : Int)) (k := k) (smI_iff.1 h) : difTo a b (fun k => (k : Int)) (k + 1) = difTo a b (fun k => (k : Int)) k))
          have HN := Lib.hid (fun (h : smI (natB a (k : Int)) (natB b (k : Int)) = false) => (dif_no (a := a) (b := b) (f := fun k => (k : Int)) (k := k) (fun e => by rw [smI_iff.2 e] at h; cases h) : difTo a b (fun k => (k : Int)) (k + 1) = difTo a b (fun k => (k : Int)) k ++ [(k : Int)]))
          have hla1 := HLA.out (k : Int)
          have hlb1 := HLB.out (k : Int)
          obtain ⟨D, hD⟩ : ∃ D, D = difTo a b (fun k => (k : Int)) k := ⟨_, rfl⟩
          rw [← hD] at HY HN ho hlen
          clear hD
          go_wp2_with fail
          refine (spec_TuneOk _ _ _ _ (hra.below hb rfl) (by omega)).mono ?_
          rintro e w1 ⟨rfl, hb1⟩
          rw [H1.out]
          have ho1 := ho.below hb1 rfl
          have hb01 := hb.trans (hb1.mono hb.size)
          clear ho hb hb1
          go_wp2_with fail
          refine (spec_TuneOk _ _ _ _ (hrb.below hb01 rfl) (by omega)).mono ?_
          rintro e w2 ⟨rfl, hb2⟩
          rw [H2.out]
          have ho2 := ho1.below hb2 rfl
          have hb02 := hb01.trans (hb2.mono hb01.size)
          clear ho1 hb01 hb2
          go_wp2_with fail
          refine (spec_Nat _ _ _ _ _ (hra.below hb02 rfl) (by omega)).mono ?_
          rintro e w3 ⟨A3, c3, rfl, _, _, _, _, hr3, hb3⟩
          have ho3 := ho2.below hb3 rfl
          have hb03 := hb02.trans (hb3.mono hb02.size)
          clear ho2 hb02 hb3
          go_wp2_with fail
          refine (spec_Nat _ _ _ _ _ (hrb.below hb03 rfl) (by omega)).mono ?_
          rintro e w4 ⟨A4, c4, rfl, _, _, _, _, hr4, hb4⟩
          have hr34 := hr3.below hb4 rfl
          have ho4 := ho3.below hb4 rfl
          have hb04 := hb03.trans (hb4.mono hb03.size)
          clear ho3 hb03 hb4 hr3
          obtain ⟨X, hX⟩ : ∃ X, X = natB a (k : Int) := ⟨_, rfl⟩
          obtain ⟨Y, hY⟩ : ∃ Y, Y = natB b (k : Int) := ⟨_, rfl⟩
          rw [← hX, ← hY] at HY HN
          rw [← hX] at hr34 hla1 ⊢
          rw [← hY] at hr4 hlb1 ⊢
          clear hX hY
          by_cases hxy : X.length = Y.length
          · have hq : ((X.length : Int) == (Y.length : Int)) = true := by simp; omega
            have hq3 : decide ((X.length : Int) = (Y.length : Int)) = true := by simp; omega
            have hq4 : decide (X.length = Y.length) = true := by simp; omega
            have HXY := Lib.hid hxy
            have hxy1 : X.length ≤ Y.length := by omega
            have hxy2 : Y.length ≤ X.length := by omega
            clear hxy
            go_wp2
            go_loopw [9, 10] (fun f i wt => ∃ (j : Nat) (fb : Bool), j ≤ X.length ∧ f = .bool fb ∧ i = .int .i64 j ∧ (fb = true → ∀ i, i < j → gt X i = gt Y i) ∧ (fb = false → smI X Y = false) ∧ Below w4.heap.size w4 wt) (fun _ i _ => X.length - (intOf i).toNat)
            case atStart => exact ⟨0, true, by omega, rfl, rfl, (fun _ i h => by omega), (fun h => by cases h), Below.refl _ _⟩
            case round =>
              obtain ⟨j, fb, hj, rfl, rfl, hT, hF, hbj⟩ := hrel
              have HT := Lib.hid hT
              have HF := Lib.hid hF
              have hb05 := hb04.trans (hbj.mono hb04.size)
              have ho5 := ho4.below hbj rfl
              have hB5 := hb05.size
              clear hT hF
              cases fb
              · have hE := HN.out (HF.out rfl)
                have HE := Lib.hid hE
                clear hE
                by_cases hjl : j < X.length
                · go_wp2_with (at_builtin; refine app_int rfl _ _ 24 rfl 3 Try.underlying24 (by kernel_rfl) w.heap.size _ D (k : Int) ho5 rfl rfl (by omega) hB5 ?_; intro v' w6 hown6 hb6)
                  go_roundw
                  case rel => exact ⟨k + 1, by omega, by go_num, by rw [HE.out]; exact hown6, hb05.trans hb6⟩
                  case measure => simp [intOf]; omega
                · go_wp2_with (at_builtin; refine app_int rfl _ _ 24 rfl 3 Try.underlying24 (by kernel_rfl) w.heap.size _ D (k : Int) ho5 rfl rfl (by omega) hB5 ?_; intro v' w6 hown6 hb6)
                  go_roundw
                  case rel => exact ⟨k + 1, by omega, by go_num, by rw [HE.out]; exact hown6, hb05.trans hb6⟩
                  case measure => simp [intOf]; omega
              · by_cases hjl : j < X.length
                · obtain ⟨b3, o3, rfl, l3, hc3⟩ := hr34 (by omega)
                  obtain ⟨b4, o4, rfl, l4, hc4⟩ := hr4 (by omega)
                  have k3 := (hbj.cell (p := ⟨b3, o3 + j, none⟩) l3).trans (hc3 j hjl)
                  have k4 := (hbj.cell (p := ⟨b4, o4 + j, none⟩) l4).trans (hc4 j (by omega))
                  have h0a : (0 : Int) ≤ (j : Int) := by omega
                  have h0b : (j : Int) < (X.length : Int) := by omega
                  have h0c : (j : Int) < (Y.length : Int) := by omega
                  clear hc3 hc4
                  by_cases he : gt X j = gt Y j
                  · have HE := Lib.hid (sm_step (HT.out rfl) he)
                    have hq' : (gt X j == gt Y j) = true := by simpa using he
                    clear he
                    go_wp2_with fail
                    go_quiet (fail)
                    go_wp2
                    go_roundw
                    case rel => exact ⟨j + 1, true, by omega, rfl, by go_num, (fun _ => HE.out), (fun h => by cases h), bel_drewN hbj _⟩
                    case measure => simp [intOf]; omega
                  · have HE := Lib.hid (sm_at he)
                    have hq' : (gt X j == gt Y j) = false := by simpa using he
                    clear he
                    go_wp2_with fail
                    go_quiet (fail)
                    go_wp2
                    go_roundw
                    case rel => exact ⟨j + 1, false, by omega, rfl, by go_num, (fun h => by cases h), (fun _ => HE.out), bel_drewN hbj _⟩
                    case measure => simp [intOf]; omega
                · obtain rfl : j = X.length := by omega
                  have HE := Lib.hid (HY.out (sm_all HXY.out (HT.out rfl)))
                  go_wp2
                  go_roundw
                  case rel => exact ⟨k + 1, by omega, by go_num, by rw [HE.out]; exact ho5, hb05⟩
                  case measure => simp [intOf]; omega
          · have hq : ((X.length : Int) == (Y.length : Int)) = false := by simp; omega
            have hq3 : decide ((X.length : Int) = (Y.length : Int)) = false := by simp; omega
            have hq4 : decide (X.length = Y.length) = false := by simp; omega
            have HE := Lib.hid (HN.out (sm_len hxy))
            clear hxy
            go_wp2
            go_loopw [9, 10] (fun f i wt => f = .bool false ∧ i = .int .i64 0 ∧ wt = w4) (fun _ i _ => 0)
            case atStart => exact ⟨rfl, rfl, rfl⟩
            case round =>
              obtain ⟨rfl, rfl, rfl⟩ := hrel
              have hB5 := hb04.size
              by_cases hjl : 0 < X.length
              · go_wp2_with (at_builtin; refine app_int rfl _ _ 24 rfl 3 Try.underlying24 (by kernel_rfl) w.heap.size _ D (k : Int) ho4 rfl rfl (by omega) hB5 ?_; intro v' w6 hown6 hb6)
                go_roundw
                case rel => exact ⟨k + 1, by omega, by go_num, by rw [HE.out]; exact hown6, hb04.trans hb6⟩
                case measure => simp [intOf]; omega
              · go_wp2_with (at_builtin; refine app_int rfl _ _ 24 rfl 3 Try.underlying24 (by kernel_rfl) w.heap.size _ D (k : Int) ho4 rfl rfl (by omega) hB5 ?_; intro v' w6 hown6 hb6)
                go_roundw
                case rel => exact ⟨k + 1, by omega, by go_num, by rw [HE.out]; exact hown6, hb04.trans hb6⟩
                case measure => simp [intOf]; omega
        · obtain rfl : k = 1001 := by omega
          go_wp2
          go_ret
          rw [HV.out]
          exact RetI.mk ho hb
end Go.Proofs.Ytajlopigpppeaaa
