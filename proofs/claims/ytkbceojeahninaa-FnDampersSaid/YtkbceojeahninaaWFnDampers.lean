/- The walk of FnDampers. -/
import Derived.Test.YtkbceojeahninaaDmpP
import Derived.Test.YtkbceojeahninaaChd
import Derived.Test.YtkbceojeahninaaDTune
import Derived.Test.YtkbceojeahninaaSamL
import Derived.Test.YtkbceojeahninaaArgB
import Derived.Deep.Cut
import Derived.Deep.CutRange
import Derived.Deep.DeepFit
import Derived.Outline
import Derived.Deep.RegionHeld3
namespace Go.Proofs.Ytkbceojeahninaa
open Go.ChangeShapes Go.WideShapes Go.ChangeAt Go.RowKit
set_option linter.unusedVariables false
theorem heldD_keep {w v u : World} {b o : Nat} {u1 : Value} (l1 : b < w.heap.size) (h : v.cell? ⟨b, o, none⟩ = some u1 ∧ Below w.heap.size w v) (hb : Below v.heap.size v u) :
    u.cell? ⟨b, o, none⟩ = some u1 ∧ Below w.heap.size w u :=
  ⟨(hb.cell (p := ⟨b, o, none⟩) (Nat.lt_of_lt_of_le l1 h.2.size)).trans h.1, h.2.trans (hb.mono h.2.size)⟩
theorem heldD_bel {w v : World} {b o : Nat} {u1 : Value} (h : v.cell? ⟨b, o, none⟩ = some u1 ∧ Below w.heap.size w v) : Below w.heap.size w v := h.2
theorem rd_oneT (w : World) (e : TypeId) : RdN (w.alloc (.cells #[.int .i64 3, .int .i64 9] e)) (some ⟨w.heap.size, 0, none⟩) oneT := by
  intro _
  refine ⟨w.heap.size, 0, rfl, by simp, fun j hj => ?_⟩
  have hj4 : j < 1 := hj
  match j, hj4 with
  | 0, _ => simp [go_sem, tm, pt, oneT]
theorem rd_nine (w : World) (e : TypeId) : RdI (w.alloc (.cells #[.int .i64 9] e)) (some ⟨w.heap.size, 0, none⟩) [9] := by
  intro _
  refine ⟨w.heap.size, 0, rfl, by simp, fun j hj => ?_⟩
  have hj4 : j < 1 := hj
  match j, hj4 with
  | 0, _ => simp [go_sem, gt]
theorem nine_same : smL [9] [9] = true := decide_eq_true rfl
/-- Another note of this pitch is near. -/
def ovP (t : List (Int × Int)) (L : Int) (i : Nat) : Prop := ∃ k, k < t.length ∧ k ≠ i ∧ pt t k = pt t i ∧ tm t k - tm t i < L ∧ tm t i - tm t k < L
theorem ov_dam {t : List (Int × Int)} (h : tuneB t = true) {L : Int} (hL : 1 ≤ L ∧ L ≤ 100) {i : Nat} (hi : i < t.length) (ho : ovP t L i) : hasI (damB t L) (pt t i) = true := by
  obtain ⟨k, hk, a, b, c, d⟩ := ho
  exact dam_has h hL hi hk a b c d
attribute [local irreducible] tm pt gt tuneB souB hasI mosB hrB damB lcB onB hsF ovP in
set_option maxHeartbeats 12800000 in
set_option maxRecDepth 100000 in
theorem walk_FnDampers (A : Option Addr) (c : Nat) (l0 : List Int) (w : World) (w0 : l0.length ≤ c ∧ c ≤ maxLen ∧ RdU w A l0.length w.heap.size ∧ True) :
    Calls Try.prog 4 #[.slice A l0.length c] w fun e w' => e = .returned (.bool true) ∧ Below w.heap.size w w' := by
  obtain ⟨_, _, hr, _⟩ := w0
  generalize l0.length = n at *
  by_cases hn : n ≤ 1048576
  · go_enter Try.func4, Try.ntmps4
    go_wp2_with fail
    refine (big_no A n c w hn).mono ?_
    rintro e wz ⟨rfl, rfl⟩
    go_wp2_with fail
    refine (draw_tune w A n c hn hr).mono ?_
    rintro e w1 ⟨t, hT, A1, c1, rfl, _, hlc, hcm, _, hrd, hb1⟩
    have HTB := Lib.hid hT.1
    have HTR := Lib.hid (fun k (hk : k < t.length) => tm_rng hT.1 hk)
    have hl11 := hT.2.1
    have HCM := Lib.hid hcm
    have hr1 := hr.below hb1 rfl
    have HB0 := Lib.hid hb1
    clear hr hT hb1 hcm
    go_wp2_with fail
    refine (at_any A n c w1 0 _ hn hr1 (by omega)).mono ?_
    rintro e vz ⟨x0, hx00, hx01, rfl, rfl⟩
    have hw0 : wrap64 (1 + x0 % 8) = 1 + x0 % 8 := by unfold wrap64; omega
    go_wp2_with fail
    obtain ⟨L, hL⟩ : ∃ L, L = 1 + x0 % 8 := ⟨_, rfl⟩
    rw [← hL]
    have hL1 : 1 ≤ L := by omega
    have hL8 : L ≤ 8 := by omega
    clear hL hw0 hx00 hx01
    refine (at_any A n c w1 1 _ hn hr1 (by omega)).mono ?_
    rintro e vz ⟨x1, hx10, hx11, rfl, rfl⟩
    go_wp2_with fail
    obtain ⟨T, hT⟩ : ∃ T, T = x1 % 24 := ⟨_, rfl⟩
    rw [← hT]
    have hT0 : 0 ≤ T := by omega
    have hT1 : T ≤ 23 := by omega
    have hwL : wrap64 (L + 1) = L + 1 := by unfold wrap64; omega
    have HOK := Lib.hid (show souOk t T L from ⟨HTB.out, ⟨by omega, by omega⟩, by omega, by omega⟩)
    have HOK1 := Lib.hid (show souOk t T (L + 1) from ⟨HTB.out, ⟨by omega, by omega⟩, by omega, by omega⟩)
    have hLr : 1 ≤ L ∧ L ≤ 100 := ⟨hL1, by omega⟩
    have HLR := Lib.hid hLr
    clear hT hx10 hx11 hr1 hLr
    refine (impl_SoundsAt A1 c1 t T L w1 hrd (by omega)).mono ?_
    rintro e w2 ⟨A2, c2, rfl, _, _, _, _, hrs, hb2⟩
    have hsl := souB_len t T L
    have hsl1 := souB_len t T (L + 1)
    go_wp2_with fail
    refine (impl_SoundsAt A1 c1 t T (L + 1) w2 (hrd.below hb2 rfl) (by omega)).mono ?_
    rintro e w3 ⟨A3, c3, rfl, _, _, _, _, hrl, hv⟩
    have hb3 := hb2.trans (hv.mono hb2.size)
    have hrs3 := hrs.below hv rfl
    have HMORE := Lib.hid (fun k hk => sou_more HOK.out HOK1.out (k := k) hk)
    clear hrs hv hb2
    go_wp2
    go_loopw [8] (fun i wr => ∃ k : Nat, k ≤ (souB t T L).length ∧ i = .int .i64 k ∧ Below w3.heap.size w3 wr) (fun i _ => (souB t T L).length - (intOf i).toNat)
    case atStart => exact ⟨0, by omega, rfl, Below.refl _ _⟩
    case round =>
      obtain ⟨k, hk, rfl, hbk⟩ := hrel
      by_cases hkl : k < (souB t T L).length
      · obtain ⟨sb, so, rfl, sl, hcs⟩ := hrs3 (by omega)
        have k1 := (hbk.cell (p := ⟨sb, so + k, none⟩) sl).trans (hcs k hkl)
        have h0i : (0 : Int) ≤ (k : Int) := by omega
        have h0j : (k : Int) < ((souB t T L).length : Int) := by omega
        have HHM := Lib.hid (HMORE.out k hkl)
        clear hcs
        go_wp2_with fail
        refine (has_any A3 c3 (souB t T (L + 1)) _ wr (hrl.below hbk rfl) (by omega)).mono ?_
        rintro e vz ⟨rfl, rfl⟩
        rw [HHM.out]
        go_wp2
        go_roundw
        case rel => exact ⟨k + 1, by omega, by go_num, hbk⟩
        case measure => simp [intOf]; omega
      · have h0j : ¬ (k : Int) < ((souB t T L).length : Int) := by omega
        have hb4 := hb3.trans (hbk.mono hb3.size)
        clear hrs3 hrl hbk hb3 hk hkl
        go_wp2_with fail
        refine (impl_MostSounding A1 c1 t L wr (hrd.below hb4 rfl) (by omega)).mono ?_
        rintro e w5 ⟨rfl, hv⟩
        obtain ⟨M, hM⟩ : ∃ M, M = mosB t L := ⟨_, rfl⟩
        rw [← hM]
        have hM3 := mos_bd HTB.out HLR.out
        rw [← hM] at hM3
        obtain ⟨hM0, hM1, hM2⟩ := hM3
        have HMS := Lib.hid (fun h => mos_sou HOK.out h)
        rw [← hM] at HMS
        have hb5 := hb4.trans (hv.mono hb4.size)
        clear hv hb4 hM
        go_wp2_with fail
        refine (impl_Harsh A1 c1 t L w5 (hrd.below hb5 rfl) (by omega)).mono ?_
        rintro e w6 ⟨A6, c6, rfl, _, _, _, _, hrh, hv⟩
        have hb6 := hb5.trans (hv.mono hb5.size)
        have hhl := hrB_len t L
        have hhl1 := hrB_len t (L + 1)
        clear hv hb5
        go_wp2_with fail
        refine (impl_Damp A1 c1 t L w6 (hrd.below hb6 rfl) hlc HCM.out (by omega)).mono ?_
        rintro e w7 ⟨A7, c7, rfl, _, _, _, _, hrx, hv⟩
        have hdl := damB_len t L
        have hb7 := hb6.trans (hv.mono hb6.size)
        have hrh7 := hrh.below hv rfl
        clear hv hb6 hrh
        go_wp2_with fail
        refine (impl_Clean A1 c1 t w7 (hrd.below hb7 rfl) (by omega)).mono ?_
        rintro e w8 ⟨rfl, hv⟩
        obtain ⟨C, hC⟩ : ∃ C, C = lcB t := ⟨_, rfl⟩
        have hCi := lc_iff HTB.out HLR.out
        rw [← hC] at hCi ⊢
        have hb8 := hb7.trans (hv.mono hb7.size)
        have hrh8 := hrh7.below hv rfl
        have hrx8 := hrx.below hv rfl
        have hrt8 := hrd.below hb8 rfl
        have hmono := hr_mono HTB.out hL1 (show L + 1 ≤ 100 by omega) (show L ≤ L + 1 by omega)
        clear hv hb7 hrh7 hrx hC
        go_upto_region 17 with fail
        go_cut [112] from 63 (fun x wx => x = .bool false ∧ Below w8.heap.size w8 wx)
        case first =>
          have t1 : decide (M < 0) = false := decide_eq_false (by omega)
          have t1' : ¬ M < 0 := by omega
          have t2 : decide ((t.length : Int) < M) = false := decide_eq_false (by omega)
          have t2' : ¬ (t.length : Int) < M := by omega
          have t3 : (M == 0) = ((t.length : Int) == 0) := by
            rw [Bool.eq_iff_iff, beq_iff_eq, beq_iff_eq, hM2]; omega
          have t4 : decide (((hrB t (L + 1)).length : Int) < ((hrB t L).length : Int)) = false := decide_eq_false (by omega)
          have t4' : ¬ (hrB t (L + 1)).length < (hrB t L).length := by omega
          have t5 : decide (L ≤ C) = (((hrB t L).length : Int) == 0) := by
            rw [Bool.eq_iff_iff, decide_eq_true_iff, beq_iff_eq, hCi]; omega
          clear hM0 hM1 hM2 hCi hmono
          by_cases hq : M < ((souB t T L).length : Int)
          · have HNO := Lib.hid (show hasI (onB t) T = false by
              rw [Bool.eq_false_iff]; intro h; have := HMS.out h; omega)
            go_wp2_with fail
            refine (impl_SoundsAt A1 c1 t T L w8 hrt8 (by omega)).mono ?_
            rintro e v1 ⟨A9, c9, rfl, _, _, _, _, _, hv1⟩
            go_wp2_with fail
            refine (spec_OnTimes A1 c1 t v1 (hrt8.below hv1 rfl) (by omega)).mono ?_
            rintro e v2 ⟨B1, d1, rfl, _, _, _, _, hro, hv2⟩
            have hv12 := hv1.trans (hv2.mono hv1.size)
            have hol := onB_len t
            clear hv1 hv2
            go_wp2_with fail
            refine (has_any B1 d1 (onB t) T v2 hro (by omega)).mono ?_
            rintro e vz ⟨rfl, rfl⟩
            rw [HNO.out]
            go_wp2_with fail
            refine (impl_Harsh A1 c1 t (L + 1) v2 (hrt8.below hv12 rfl) (by omega)).mono ?_
            rintro e v3 ⟨B2, d2, rfl, _, _, _, _, _, hv3⟩
            have hv13 := hv12.trans (hv3.mono hv12.size)
            clear hv12 hv3
            go_wp2_with fail
            go_meet
            case rel => exact ⟨by first | rfl | simp [t1, t2, t3, t4, t5], hv13⟩
          · go_wp2_with fail
            refine (impl_SoundsAt A1 c1 t T L w8 hrt8 (by omega)).mono ?_
            rintro e v1 ⟨A9, c9, rfl, _, _, _, _, _, hv1⟩
            go_wp2_with fail
            refine (impl_Harsh A1 c1 t (L + 1) v1 (hrt8.below hv1 rfl) (by omega)).mono ?_
            rintro e v3 ⟨B2, d2, rfl, _, _, _, _, _, hv3⟩
            have hv13 := hv1.trans (hv3.mono hv1.size)
            clear hv1 hv3
            go_wp2_with fail
            go_meet
            case rel => exact ⟨by first | rfl | simp [t1, t2, t3, t4, t5], hv13⟩
        case rest =>
          obtain ⟨rfl, hbc⟩ := hcut
          have hb9 := hb8.trans (hbc.mono hb8.size)
          have hrh9 := hrh8.below hbc rfl
          have hrx9 := hrx8.below hbc rfl
          have hrt9 := hrt8.below hbc rfl
          have HHA := Lib.hid (fun k hk => hr_at HTB.out HLR.out (k := k) hk)
          clear hbc hb8 hrh8 hrx8 hrt8 hrd hM0 hM1 hM2 hCi hmono
          go_wp2
          go_loopw [13] (fun i wr => ∃ k : Nat, k ≤ (hrB t L).length ∧ i = .int .i64 k ∧ Below wc.heap.size wc wr) (fun i _ => (hrB t L).length - (intOf i).toNat)
          case atStart => exact ⟨0, by omega, rfl, Below.refl _ _⟩
          case round =>
            obtain ⟨k, hk, rfl, hbk⟩ := hrel
            by_cases hkl : k < (hrB t L).length
            · obtain ⟨hb, ho, rfl, hl, hch⟩ := hrh9 (by omega)
              have k1 := (hbk.cell (p := ⟨hb, ho + k, none⟩) hl).trans (hch k hkl)
              have h0i : (0 : Int) ≤ (k : Int) := by omega
              have h0j : (k : Int) < ((hrB t L).length : Int) := by omega
              obtain ⟨e1, e2, e3, e4⟩ := HHA.out k hkl
              obtain ⟨X, hX⟩ : ∃ X, X = gt (hrB t L) k := ⟨_, rfl⟩
              rw [← hX] at e1 e2 e3 e4 k1
              have HE1 := Lib.hid e1
              have HE2 := Lib.hid e2
              have hsx := souB_len t X L
              clear hch hX e1 e2
              go_wp2_with fail
              refine (impl_SoundsAt A1 c1 t X L wr (hrt9.below hbk rfl) (by omega)).mono ?_
              rintro e v1 ⟨A9, c9, rfl, _, _, _, _, hrx1, hv1⟩
              have k2 := (hv1.cell (p := ⟨hb, ho + k, none⟩) (Nat.lt_of_lt_of_le hl hbk.size)).trans k1
              have hb1 := hbk.trans (hv1.mono hbk.size)
              have hrt1 := hrt9.below hb1 rfl
              have hl2 : hb < v1.heap.size := Nat.lt_of_lt_of_le hl hb1.size
              have hol := onB_len t
              clear hv1 hbk k1
              go_wp2_with fail
              go_region_held3 (fun w' => w'.cell? ⟨hb, ho + k, none⟩ = some (.int .i64 X) ∧ Below v1.heap.size v1 w')
                (first | exact ⟨k2, (Below.refl _ _).drew⟩ | exact ⟨k2, Below.refl _ _⟩ | assumption | exact heldD_keep hl2 (by assumption) hba | exact heldD_keep hl2 (by assumption) hbb)
                ((first
                  | (go_at_call 24; go_fit (spec_OnTimes A1 c1 t _ (hrt1.below (heldD_bel (by assumption)) rfl) (by omega)); rintro e wa ⟨Aa, ca, rfl, _, _, _, _, hna, hba⟩)
                  | (go_at_call 11; go_fit (has_any _ _ (onB t) X _ hna (by omega)); rintro e vz ⟨rfl, rfl⟩; rw [HE1.out])
                  | (go_at_call 25; go_fit (chord_no _ _ (souB t X L) _ (hrx1.below (heldD_bel (by assumption)) rfl) (by omega) (fun i hi => souB_p60 hi) HE2.out); rintro e wb ⟨rfl, hbb⟩)))
              have hbx := hb1.trans ((heldD_bel (by assumption)).mono hb1.size)
              go_wp2
              go_roundw
              case rel => exact ⟨k + 1, by omega, by go_num, hbx⟩
              case measure => simp [intOf]; omega
            · have h0j : ¬ (k : Int) < ((hrB t L).length : Int) := by omega
              have hb10 := hb9.trans (hbk.mono hb9.size)
              have hrx10 := hrx9.below hbk rfl
              have hrt10 := hrt9.below hbk rfl
              obtain ⟨wo, hwo⟩ : ∃ wo, wo = wr := ⟨wr, rfl⟩
              subst hwo
              have HOD := Lib.hid (fun i (hi : i < t.length) ho => ov_dam HTB.out HLR.out hi ho)
              clear hb9 hrx9 hrt9 hbk hrh9 hk hkl
              go_wp2
              go_loopw [15] (fun i wr => ∃ k : Nat, k ≤ t.length ∧ i = .int .i64 k ∧ Below wo.heap.size wo wr) (fun i _ => t.length - (intOf i).toNat)
              case atStart => exact ⟨0, by omega, rfl, Below.refl _ _⟩
              case round =>
                obtain ⟨i, hi, rfl, hbi⟩ := hrel
                by_cases hil : i < t.length
                · have h0i : (0 : Int) ≤ (i : Int) := by omega
                  have h0j : (i : Int) < (t.length : Int) := by omega
                  obtain ⟨wi, hwi⟩ : ∃ wi, wi = wr := ⟨wr, rfl⟩
                  subst hwi
                  go_wp2
                  go_loopw [16, 17] (fun f q wt => ∃ (k : Nat) (o : Bool), k ≤ t.length ∧ q = .int .i64 k ∧ f = .bool o ∧ (o = true → ovP t L i) ∧ Below wo.heap.size wo wt) (fun _ q _ => t.length - (intOf q).toNat)
                  case atStart => exact ⟨0, false, by omega, rfl, rfl, (fun h => by cases h), hbi⟩
                  case round =>
                    obtain ⟨k, o, hk, rfl, rfl, hO, hbk⟩ := hrel
                    by_cases hkl : k < t.length
                    · have h0k : (0 : Int) ≤ (k : Int) := by omega
                      have h0l : (k : Int) < (t.length : Int) := by omega
                      obtain ⟨tb, to1, rfl, tl, hct⟩ := hrt10 (by omega)
                      have k1 := (hbk.cell (p := ⟨tb, to1 + i * 2, none⟩) tl).trans (hct i hil).1
                      have k2 := (hbk.cell (p := ⟨tb, to1 + i * 2 + 1, none⟩) tl).trans (hct i hil).2
                      have k3 := (hbk.cell (p := ⟨tb, to1 + k * 2, none⟩) tl).trans (hct k hkl).1
                      have k4 := (hbk.cell (p := ⟨tb, to1 + k * 2 + 1, none⟩) tl).trans (hct k hkl).2
                      have g1 := HTR.out i hil
                      have g2 := HTR.out k hkl
                      have W1 := Lib.hid (show IntKind.i64.wrap (tm t k - tm t i) = tm t k - tm t i from IntWalk.i64_in _ (by omega))
                      have W2 := Lib.hid (show IntKind.i64.wrap (tm t i - tm t k) = tm t i - tm t k from IntWalk.i64_in _ (by omega))
                      have HO := Lib.hid hO
                      clear hct g1 g2 hO
                      cases o with
                      | true =>
                        go_wp2_with fail
                        go_quiet (fail)
                        go_wp2
                        go_roundw
                        case rel => exact ⟨k + 1, true, by omega, by go_num, rfl, (fun _ => by first | exact HO.out trivial | exact HO.out rfl), bel_drewN hbk _⟩
                        case measure => simp [intOf]; omega
                      | false =>
                        by_cases hki : k = i
                        · have q1 : ((k : Int) != (i : Int)) = false := by simp [hki]
                          clear hki
                          go_wp2_with fail
                          go_quiet (fail)
                          go_wp2
                          go_roundw
                          case rel => exact ⟨k + 1, false, by omega, by go_num, rfl, (fun h => by cases h), bel_drewN hbk _⟩
                          case measure => simp [intOf]; omega
                        · have q1 : ((k : Int) != (i : Int)) = true := by simp; omega
                          have HKI := Lib.hid hki
                          clear hki
                          by_cases hpp : pt t k = pt t i
                          · have q2 : (pt t k == pt t i) = true := by simpa using hpp
                            have HPP := Lib.hid hpp
                            clear hpp
                            by_cases hmx : max (tm t k - tm t i) (tm t i - tm t k) < L
                            · have HOV := Lib.hid (show ovP t L i by unfold ovP; exact ⟨k, hkl, HKI.out, HPP.out, by omega, by omega⟩)
                              go_wp2_with fail
                              have v1 := W1.out
                              have v2 := W2.out
                              go_quiet (fail)
                              clear v1 v2
                              go_wp2
                              go_roundw
                              case rel => exact ⟨k + 1, true, by omega, by go_num, by first | rfl | (congr 1; simp; omega) | simp [hmx], (fun _ => HOV.out), bel_drewN hbk _⟩
                              case measure => simp [intOf]; omega
                            · go_wp2_with fail
                              have v1 := W1.out
                              have v2 := W2.out
                              go_quiet (fail)
                              clear v1 v2
                              go_wp2
                              go_roundw
                              case rel => exact ⟨k + 1, false, by omega, by go_num, by first | rfl | (congr 1; simp; omega) | simp [hmx], (fun h => by cases h), bel_drewN hbk _⟩
                              case measure => simp [intOf]; omega
                          · have q2 : (pt t k == pt t i) = false := by simpa using hpp
                            clear hpp
                            go_wp2_with fail
                            go_quiet (fail)
                            go_wp2
                            go_roundw
                            case rel => exact ⟨k + 1, false, by omega, by go_num, rfl, (fun h => by cases h), bel_drewN hbk _⟩
                            case measure => simp [intOf]; omega
                    · have h0l : ¬ (k : Int) < (t.length : Int) := by omega
                      cases o with
                      | true =>
                        have HD := Lib.hid (HOD.out i hil (hO rfl))
                        obtain ⟨tb, to1, rfl, tl, hct⟩ := hrt10 (by omega)
                        have k2 := (hbk.cell (p := ⟨tb, to1 + i * 2 + 1, none⟩) tl).trans (hct i hil).2
                        clear hct hO
                        go_wp2_with fail
                        refine (has_any _ _ (damB t L) (pt t i) _ (hrx10.below hbk rfl) (by omega)).mono ?_
                        rintro e vz ⟨rfl, rfl⟩
                        rw [HD.out]
                        go_wp2
                        go_roundw
                        case rel => exact ⟨i + 1, by omega, by go_num, hbk⟩
                        case measure => simp [intOf]; omega
                      | false =>
                        clear hO
                        go_wp2
                        go_roundw
                        case rel => exact ⟨i + 1, by omega, by go_num, hbk⟩
                        case measure => simp [intOf]; omega
                · have h0j : ¬ (i : Int) < (t.length : Int) := by omega
                  have hb11 := hb10.trans (hbi.mono hb10.size)
                  have hrt11 := hrt10.below hbi rfl
                  have HDA := Lib.hid (dam_one HTB.out)
                  clear hb10 hrt10 hrx10 hbi hi hil
                  go_upto_region 36 with (fail)
                  obtain ⟨V, hV⟩ : ∃ V, V = wr.alloc (.cells #[.int .i64 3, .int .i64 9] 37) := ⟨_, rfl⟩
                  rw [← hV]
                  have hbV : Below wr.heap.size wr V := by rw [hV]; exact (Below.refl _ _).alloc (Nat.le_refl _) _
                  have hrO : RdN V (some ⟨wr.heap.size, 0, none⟩) oneT := by rw [hV]; exact rd_oneT _ _
                  have hb12 := hb11.trans (hbV.mono hb11.size)
                  have hrt12 := hrt11.below hbV rfl
                  clear hV hbV hb11 hrt11
                  go_wp2_with fail
                  refine (impl_SoundsAt _ 1 oneT 4 2 V hrO (by decide)).mono ?_
                  rintro e u1 ⟨B1, d1, rfl, _, _, _, _, hrp, hu1⟩
                  rw [one_four] at hrp ⊢
                  have hb13 := hb12.trans (hu1.mono hb12.size)
                  have hrO1 := hrO.below hu1 rfl
                  have hrt13 := hrt12.below hu1 rfl
                  clear hu1 hb12 hrt12 hrO
                  go_wp2_with fail
                  refine (sameL_any _ _ _ 1 [9] [9] _ (hrp.below ((Below.refl _ _).alloc (Nat.le_refl _) _) rfl) (rd_nine _ _) (by decide) (by decide)).mono ?_
                  rintro e u2 ⟨rfl, hu2⟩
                  rw [nine_same]
                  have hu2a := ((Below.refl u1.heap.size u1).alloc (Nat.le_refl _) (.cells #[.int .i64 9] 3)).trans (hu2.mono (by simp))
                  have hb14 := hb13.trans (hu2a.mono hb13.size)
                  have hrO2 := hrO1.below hu2a rfl
                  have hrt14 := hrt13.below hu2a rfl
                  clear hu2 hu2a hb13 hrt13 hrO1 hrp
                  go_wp2_with fail
                  refine (impl_SoundsAt _ 1 oneT 5 2 _ hrO2 (by decide)).mono ?_
                  rintro e u3 ⟨B2, d2, rfl, _, _, _, _, _, hu3⟩
                  rw [one_five]
                  have hb15 := hb14.trans (hu3.mono hb14.size)
                  have hrO3 := hrO2.below hu3 rfl
                  have hrt15 := hrt14.below hu3 rfl
                  clear hu3 hb14 hrt14 hrO2
                  go_wp2_with fail
                  refine (impl_Damp A1 c1 t 1 _ hrt15 hlc HCM.out (by omega)).mono ?_
                  rintro e u4 ⟨B3, d3, rfl, _, _, _, _, _, hu4⟩
                  rw [HDA.out]
                  have hb16 := hb15.trans (hu4.mono hb15.size)
                  have hrO4 := hrO3.below hu4 rfl
                  clear hu4 hb15 hrt15 hrO3
                  go_wp2_with fail
                  refine (impl_Clean _ 1 oneT _ hrO4 (by decide)).mono ?_
                  rintro e u5 ⟨rfl, hu5⟩
                  rw [one_clean]
                  have hb17 := Lib.hid (HB0.out.trans ((hb16.trans (hu5.mono hb16.size)).mono HB0.out.size))
                  clear hu5 hb16
                  go_wp2
                  go_ret
                  exact ⟨rfl, hb17.out⟩
  · go_enter Try.func4, Try.ntmps4
    go_wp2_with fail
    refine (big_yes A n c w hn).mono ?_
    rintro e wz ⟨rfl, rfl⟩
    go_wp2
    go_ret
    exact ⟨rfl, Below.refl _ _⟩
end Go.Proofs.Ytkbceojeahninaa
