/- The walk of FnCanons. -/
import Derived.Test.YtajlopigpppeaaaCanP
import Derived.Test.YtajlopigpppeaaaLawH
import Derived.Test.YtajlopigpppeaaaArgB
namespace Go.Proofs.Ytajlopigpppeaaa
open Go.ChangeShapes Go.WideShapes Go.ChangeAt Go.RowKit
set_option linter.unusedVariables false
theorem rng_in {x : Int} (h1 : -9223372036854775808 ≤ x) (h2 : x ≤ 9223372036854775807) : Rng x := by
  unfold Rng
  simp [Lit.wf, IntKind.min, IntKind.max, IntKind.signed, IntKind.bits]
  omega
theorem rd_beat (w : World) (e : TypeId) : RdN (w.alloc (.cells #[.int .i64 1, .int .i64 9, .int .i64 5, .int .i64 9, .int .i64 9, .int .i64 9] e)) (some ⟨w.heap.size, 0, none⟩) beatL := by
  intro _
  refine ⟨w.heap.size, 0, rfl, by simp, fun j hj => ?_⟩
  have hj4 : j < 3 := hj
  match j, hj4 with
  | 0, _ => simp [go_sem, tm, pt, beatL]
  | 1, _ => simp [go_sem, tm, pt, beatL]
  | 2, _ => simp [go_sem, tm, pt, beatL]
attribute [local irreducible] tm pt tuneB rndZ brnZ winB winR aroL aroB aroS saB srt in
set_option maxHeartbeats 6400000 in
set_option maxRecDepth 100000 in
theorem walk_FnCanons (A : Option Addr) (c : Nat) (l0 : List Int) (w : World) (w0 : l0.length ≤ c ∧ c ≤ maxLen ∧ RdU w A l0.length w.heap.size ∧ True) :
    Calls Try.prog 5 #[.slice A l0.length c] w fun e w' => e = .returned (.bool true) ∧ Below w.heap.size w w' := by
  obtain ⟨_, _, hr, _⟩ := w0
  generalize l0.length = n at *
  by_cases hn : n ≤ 1048576
  · go_enter Try.func5, Try.ntmps5
    go_wp2_with fail
    refine (big_no A n c w hn).mono ?_
    rintro e wz ⟨rfl, rfl⟩
    go_wp2_with fail
    refine (draw_tune w A n c hn hr).mono ?_
    rintro e w1 ⟨t, hT, A1, c1, rfl, _, _, _, hA1, hrd, hb1⟩
    have HT := Lib.hid hT
    have hl11 := hT.2.1
    have hr1 := hr.below hb1 rfl
    have HB0 := Lib.hid hb1
    clear hr hT hb1
    go_wp2_with fail
    refine (at_any A n c w1 0 _ hn hr1 (by omega)).mono ?_
    rintro e vz ⟨x0, hx00, hx01, rfl, rfl⟩
    have hw0 : wrap64 (1 + x0 % 12) = 1 + x0 % 12 := by unfold wrap64; omega
    go_wp2_with fail
    obtain ⟨M, hM⟩ : ∃ M : Nat, (M : Int) = 1 + x0 % 12 := ⟨(1 + x0 % 12).toNat, by omega⟩
    rw [← hM]
    have hM1 : (1 : Int) ≤ (M : Int) := by omega
    have hM2 : (M : Int) ≤ 12 := by omega
    clear hM hx00 hx01 hw0 hr1
    refine (impl_Brn A1 c1 t M w1 hrd (by omega) hA1).mono ?_
    rintro e w2 ⟨rfl, hb2⟩
    obtain ⟨b, hbz, hbb1, hbb2, hbb3⟩ := dr_best HT.out hM1 hM2
    have HBB := Lib.hid hbb3
    rw [hbz]
    have q1 : ¬ b < 1 := by omega
    have q2 : ¬ (M : Int) < b := by omega
    clear hbz hbb3
    go_wp2
    go_loopw [6] (fun i wr => ∃ K : Nat, 1 ≤ K ∧ (K : Int) ≤ (M : Int) + 1 ∧ i = .int .i64 K ∧ Below w1.heap.size w1 wr) (fun i _ => M + 1 - (intOf i).toNat)
    case atStart => exact ⟨1, by omega, by omega, rfl, hb2⟩
    case round =>
      clear hb2
      obtain ⟨K, hK1, hK2, rfl, hb⟩ := hrel
      by_cases hlt : (K : Int) ≤ (M : Int)
      · obtain ⟨hm1, hm2⟩ := HBB.out K (by omega) hlt
        have hm3 : ¬ rndZ t (K : Int) < rndZ t b := by omega
        clear hm1
        go_wp2_with fail
        refine (impl_Rnd A1 c1 t K wr (hrd.below hb rfl) (by omega) hA1).mono ?_
        rintro e v1 ⟨rfl, hv1⟩
        have hb1 := hb.trans (hv1.mono hb.size)
        go_wp2_with fail
        refine (impl_Rnd A1 c1 t b v1 (hrd.below hb1 rfl) (by omega) hA1).mono ?_
        rintro e v2 ⟨rfl, hv2⟩
        have hb2 := hb1.trans (hv2.mono hb1.size)
        clear hv1 hv2 hb1
        by_cases hkb : (K : Int) < b
        · have hm4 : (rndZ t (K : Int) == rndZ t b) = false := beq_eq_false_iff_ne.2 (by have := hm2 hkb; omega)
          clear hm2
          go_wp2_with fail
          refine (impl_Rnd A1 c1 t b v2 (hrd.below hb2 rfl) (by omega) hA1).mono ?_
          rintro e v3 ⟨rfl, hv3⟩
          have hb3 := hb2.trans (hv3.mono hb2.size)
          clear hv3 hb2 hb
          go_wp2
          go_roundw
          case rel => exact ⟨K + 1, by omega, by omega, by go_num, hb3⟩
          case measure => simp [intOf]; omega
        · clear hm2 hb
          go_wp2
          go_roundw
          case rel => exact ⟨K + 1, by omega, by omega, by go_num, hb2⟩
          case measure => simp [intOf]; omega
      · clear hK1 hK2
        have HW := Lib.hid (dr_win HT.out (n := (M : Int)) (by omega) (by omega))
        have HW0 := Lib.hid (dr_win0 HT.out)
        have HWB := Lib.hid (dr_win HT.out (n := 0) (by omega) (by omega)).1
        have HA := Lib.hid (aro_ok HT.out.in16 (n := (M : Int)) (by omega) (by omega))
        have HK := Lib.hid (aro_back HT.out.in16 (n := (M : Int)) (by omega) (by omega))
        have HSF := Lib.hid (sa_full HT.out.in16)
        go_wp2_with fail
        refine (impl_With A1 c1 t M wr (hrd.below hb rfl) (by omega) hA1).mono ?_
        rintro e v1 ⟨A2, c2, rfl, _, _, _, _, _, hv1⟩
        rw [HW.out.1]
        have s1 : ¬ 2 * (t.length : Int) < ((winR t (M : Int)).length : Int) := by have := HW.out.2.2.2.1; omega
        have s2 : ¬ ((winR t (M : Int)).length : Int) < (t.length : Int) := by have := HW.out.2.2.1; omega
        have s3 : wrap64 (2 * (t.length : Int)) = 2 * (t.length : Int) := by unfold wrap64; omega
        have hb1 := hb.trans (hv1.mono hb.size)
        clear hv1 hb
        go_wp2_with fail
        refine (impl_With A1 c1 t 0 v1 (hrd.below hb1 rfl) (by omega) hA1).mono ?_
        rintro e v2 ⟨A3, c3, rfl, _, _, _, _, hry, hv2⟩
        rw [HWB.out]
        rw [HW0.out] at hry ⊢
        have hb2 := hb1.trans (hv2.mono hb1.size)
        clear hv2 hb1
        go_wp2_with fail
        refine (impl_AroundTurn A1 c1 t M 16 v2 (hrd.below hb2 rfl) (by omega) (rng_in (by omega) (by omega)) (rng_in (by omega) (by omega))).mono ?_
        rintro e v3 ⟨A4, c4, rfl, _, _, _, _, hra, hv3⟩
        rw [HA.out.1]
        have hal := HA.out.2.2.1
        obtain ⟨a, ha⟩ : ∃ a, a = aroL t (M : Int) 16 := ⟨_, rfl⟩
        have HK2 := Lib.hid (show aroB a (16 - (M : Int)) 16 = true ∧ aroL a (16 - (M : Int)) 16 = t by rw [ha]; exact HK.out)
        rw [← ha] at hra hal ⊢
        have s4 : ((a.length : Int) != (t.length : Int)) = false := by rw [hal]; simp
        have hal2 : a.length ≤ 40 := by omega
        have hb3 := hb2.trans (hv3.mono hb2.size)
        have hry3 := hry.below hv3 rfl
        have s5 : wrap64 (16 - (M : Int)) = 16 - (M : Int) := by unfold wrap64; omega
        clear hv3 hb2 ha hal hry
        go_wp2_with fail
        refine (impl_AroundTurn A4 c4 a (16 - (M : Int)) 16 v3 hra (by omega) (rng_in (by omega) (by omega)) (rng_in (by omega) (by omega))).mono ?_
        rintro e v4 ⟨A5, c5, rfl, _, _, _, _, hrc, hv4⟩
        rw [HK2.out.1]
        rw [HK2.out.2] at hrc ⊢
        have hb4 := hb3.trans (hv4.mono hb3.size)
        have hry4 := hry3.below hv4 rfl
        have hrt4 := hrd.below hb4 rfl
        clear hv4 hb3 hry3 hra hrd
        go_wp2
        go_loopw [16] (fun i wr => ∃ k : Nat, k ≤ t.length ∧ i = .int .i64 k ∧ Below v4.heap.size v4 wr) (fun i _ => t.length - (intOf i).toNat)
        case atStart => exact ⟨0, by omega, rfl, Below.refl _ _⟩
        case round =>
          obtain ⟨k, hk, rfl, hbk⟩ := hrel
          by_cases hkl : k < t.length
          · obtain ⟨b1, o1, rfl, lb1, hc1⟩ := hrt4 (by omega)
            obtain ⟨b2, o2, rfl, lb2, hc2⟩ := hry4 (by omega)
            obtain ⟨b3, o3, rfl, lb3, hc3⟩ := hrc (by omega)
            have k1 := (hbk.cell (p := ⟨b1, o1 + k * 2, none⟩) lb1).trans (hc1 k hkl).1
            have k2 := (hbk.cell (p := ⟨b1, o1 + k * 2 + 1, none⟩) lb1).trans (hc1 k hkl).2
            have k3 := (hbk.cell (p := ⟨b2, o2 + k * 2, none⟩) lb2).trans (hc2 k hkl).1
            have k4 := (hbk.cell (p := ⟨b2, o2 + k * 2 + 1, none⟩) lb2).trans (hc2 k hkl).2
            have k5 := (hbk.cell (p := ⟨b3, o3 + k * 2, none⟩) lb3).trans (hc3 k hkl).1
            have k6 := (hbk.cell (p := ⟨b3, o3 + k * 2 + 1, none⟩) lb3).trans (hc3 k hkl).2
            have h0i : (0 : Int) ≤ (k : Int) := by omega
            have h0j : (k : Int) < (t.length : Int) := by omega
            clear hc1 hc2 hc3
            go_wp2_with fail
            go_quiet (fail)
            go_wp2
            go_roundw
            case rel => exact ⟨k + 1, by omega, by go_num, bel_drewN hbk _⟩
            case measure => simp [intOf]; omega
          · have h0j : ¬ (k : Int) < (t.length : Int) := by omega
            have hb5 := hb4.trans (hbk.mono hb4.size)
            have hrt5 := hrt4.below hbk rfl
            clear hb4 hbk hrt4 hry4 hrc
            go_upto_region 26 with (fail)
            obtain ⟨V, hV⟩ : ∃ V, V = wr.alloc (.cells #[.int .i64 1, .int .i64 9, .int .i64 5, .int .i64 9, .int .i64 9, .int .i64 9] 42) := ⟨_, rfl⟩
            rw [← hV]
            have hbV : Below wr.heap.size wr V := by rw [hV]; exact (Below.refl _ _).alloc (Nat.le_refl _) _
            have hrB : RdN V (some ⟨wr.heap.size, 0, none⟩) beatL := by rw [hV]; exact rd_beat _ _
            have hb6 := hb5.trans (hbV.mono hb5.size)
            have hrt6 := hrt5.below hbV rfl
            clear hV hbV hb5 hrt5
            go_wp2_with fail
            refine (impl_SameAround A1 c1 t 16 16 V hrt6 (by omega) (rng_in (by omega) (by omega)) (rng_in (by omega) (by omega))).mono ?_
            rintro e u1 ⟨rfl, hu1⟩
            rw [HSF.out]
            have hb7 := hb6.trans (hu1.mono hb6.size)
            have hrB1 := hrB.below hu1 rfl
            clear hu1 hb6 hrt6 hrB
            go_wp2_with fail
            refine (impl_SameAround _ 3 beatL 4 12 u1 hrB1 (by decide) (rng_in (by omega) (by omega)) (rng_in (by omega) (by omega))).mono ?_
            rintro e u2 ⟨rfl, hu2⟩
            rw [beat_yes]
            have hb8 := hb7.trans (hu2.mono hb7.size)
            have hrB2 := hrB1.below hu2 rfl
            clear hu2 hb7 hrB1
            go_wp2_with fail
            refine (impl_SameAround _ 3 beatL 3 12 u2 hrB2 (by decide) (rng_in (by omega) (by omega)) (rng_in (by omega) (by omega))).mono ?_
            rintro e u3 ⟨rfl, hu3⟩
            rw [beat_no]
            have hb9 := Lib.hid (HB0.out.trans ((hb8.trans (hu3.mono hb8.size)).mono HB0.out.size))
            clear hu3 hb8 hrB2
            go_wp2
            go_ret
            exact ⟨rfl, hb9.out⟩
  · go_enter Try.func5, Try.ntmps5
    go_wp2_with fail
    refine (big_yes A n c w hn).mono ?_
    rintro e wz ⟨rfl, rfl⟩
    go_wp2
    go_ret
    exact ⟨rfl, Below.refl _ _⟩
end Go.Proofs.Ytajlopigpppeaaa
