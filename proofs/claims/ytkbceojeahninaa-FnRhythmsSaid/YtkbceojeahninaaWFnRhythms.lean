/- The walk of FnRhythms. -/
import Derived.Test.YtkbceojeahninaaDRhy
import Derived.Test.YtkbceojeahninaaArgB
import Derived.Deep.Cut
import Derived.Deep.CutRange
import Derived.Deep.DeepFit
import Derived.Outline
import Derived.Deep.RegionHeld3
namespace Go.Proofs.Ytkbceojeahninaa
open Go.ChangeShapes Go.WideShapes Go.ChangeAt Go.RowKit
set_option linter.unusedVariables false
def sgZ (o : List Int) (K : Nat) : Int := gt o K - gt o 0
theorem sg_zero (o : List Int) : sgZ o 0 = 0 := by unfold sgZ; omega
theorem sg_succ {t : List (Int × Int)} (h : tuneB t = true) (hl : t.length ≤ 40) {K : Nat} (hK : K < (gpB t).length) : sgZ (onB t) (K + 1) = sgZ (onB t) K + gt (gpB t) K := by
  have := ((gap_law h hl).2.2.2.1 K hK).2.2
  unfold sgZ; omega
theorem sg_rng {t : List (Int × Int)} {K : Nat} (hK : K ≤ (gpB t).length) : -1000 ≤ sgZ (onB t) K ∧ sgZ (onB t) K ≤ 1000 := by
  have hg : (gpB t).length = (onB t).length - 1 := by unfold gpB; rw [gpZ_len]
  by_cases h0 : (onB t).length = 0
  · obtain rfl : K = 0 := by omega
    rw [sg_zero]; omega
  · have r1 := onB_rng t (show K < (onB t).length by omega)
    have r2 := onB_rng t (show 0 < (onB t).length by omega)
    unfold sgZ; omega
theorem RdU.up {w : World} {A : Option Addr} {n N N' : Nat} (h : RdU w A n N) (hN : N ≤ N') : RdU w A n N' := by
  intro h0
  obtain ⟨b, o, e, hb, hc⟩ := h h0
  exact ⟨b, o, e, Nat.lt_of_lt_of_le hb hN, hc⟩
theorem mx_succ (g : List Int) (k : Nat) : maxTo g (k + 1) = max (maxTo g k) (gt g k) := rfl
theorem belR_keep {w v u : World} (h : Below w.heap.size w v) (hb : Below v.heap.size v u) : Below w.heap.size w u := h.trans (hb.mono h.size)
theorem heldR_keep {w v u : World} {b o1 o2 : Nat} {u1 u2 : Value} (l1 : b < w.heap.size) (h : v.cell? ⟨b, o1, none⟩ = some u1 ∧ v.cell? ⟨b, o2, none⟩ = some u2 ∧ Below w.heap.size w v) (hb : Below v.heap.size v u) :
    u.cell? ⟨b, o1, none⟩ = some u1 ∧ u.cell? ⟨b, o2, none⟩ = some u2 ∧ Below w.heap.size w u :=
  ⟨(hb.cell (p := ⟨b, o1, none⟩) (Nat.lt_of_lt_of_le l1 h.2.2.size)).trans h.1, (hb.cell (p := ⟨b, o2, none⟩) (Nat.lt_of_lt_of_le l1 h.2.2.size)).trans h.2.1, h.2.2.trans (hb.mono h.2.2.size)⟩
theorem heldR_bel {w v : World} {b o1 o2 : Nat} {u1 u2 : Value} (h : v.cell? ⟨b, o1, none⟩ = some u1 ∧ v.cell? ⟨b, o2, none⟩ = some u2 ∧ Below w.heap.size w v) : Below w.heap.size w v := h.2.2
theorem md_facts {K : Nat} {x : Int} (h : K ≤ 24) (hx : 0 ≤ x) : wrap64 ((K : Int) + 1) = (K : Int) + 1 ∧ ¬ (K : Int) + 1 = 0 ∧ ¬ (K : Int) + 1 = -1 ∧ x.tmod ((K : Int) + 1) = x % ((K : Int) + 1) ∧ ∃ m : Nat, (m : Int) = x % ((K : Int) + 1) ∧ m ≤ K := by
  have h1 : ¬ (K : Int) + 1 = 0 := by omega
  have h2 := Int.emod_nonneg x h1
  have h3 := Int.emod_lt_of_pos x (show 0 < (K : Int) + 1 by omega)
  exact ⟨by unfold wrap64; omega, h1, by omega, Int.tmod_eq_emod_of_nonneg hx, (x % ((K : Int) + 1)).toNat, by omega, by omega⟩
theorem sp_ok {m K : Nat} (h1 : 1 ≤ K) (h2 : K ≤ 24) (hm : m ≤ K) : spreadZ (m : Int) (K : Int) = spreadTo m K m := by
  have hok : spreadOk m K := ⟨by omega, by omega, by omega, by omega⟩
  unfold spreadZ; rw [if_pos hok]; rfl
theorem wr_sm {x : Int} (h1 : -1000000 ≤ x) (h2 : x ≤ 1000000) : wrap64 x = x := by unfold wrap64; omega
/-- All that a round of the second loop asks. -/
theorem gap_facts {m K k : Nat} {S M : Int} (hS : S = (K : Int)) (hM : M = (m : Int)) (hK : K ≤ 24) (hm : m ≤ K) (hk : k < m) : ∃ u v q1 q2 : Int, gt (spreadTo m K m) k = u ∧ (k + 1 < m → gt (spreadTo m K m) (k + 1) = v) ∧ (¬ k + 1 < m → S = v) ∧ ¬ M = 0 ∧ ¬ M = -1 ∧ S.tdiv M = q1 ∧ wrap64 (S + M) = S + M ∧
    wrap64 (S + M - 1) = S + M - 1 ∧ (S + M - 1).tdiv M = q2 ∧ wrap64 (v - u) = v - u ∧ ¬ v - u < q1 ∧ ¬ q2 < v - u ∧ wrap64 q1 = q1 ∧ wrap64 q2 = q2 := by
  subst hS hM
  obtain ⟨g1, g2⟩ := sp_gap (n := m) (s := K) (k := k) (by omega) hk
  have hl := sp_last (n := m) (s := K) (by omega)
  have b1 : (k + 1) * K / m ≤ K := by
    have := Nat.div_le_div_right (c := m) (Nat.mul_le_mul_right K (show k + 1 ≤ m by omega))
    rwa [hl] at this
  have b2 : k * K / m ≤ K := by
    have := Nat.div_le_div_right (c := m) (Nat.mul_le_mul_right K (show k ≤ m by omega))
    rwa [hl] at this
  have b3 : K / m ≤ K := Nat.div_le_self _ _
  have b4 : (K + m - 1) / m ≤ K + m - 1 := Nat.div_le_self _ _
  refine ⟨((k * K / m : Nat) : Int), (((k + 1) * K / m : Nat) : Int), ((K / m : Nat) : Int), (((K + m - 1) / m : Nat) : Int), sp_get hk, fun h => sp_get h, fun h => ?_, by omega, by omega, rfl, wr_sm (by omega) (by omega), wr_sm (by omega) (by omega), ?_, ?_, ?_, ?_, ?_, ?_⟩
  · rw [show k + 1 = m by omega, hl]
  · rw [show (K : Int) + (m : Int) - 1 = ((K + m - 1 : Nat) : Int) by omega]; rfl
  · generalize (k + 1) * K / m = v at *
    generalize k * K / m = u at *
    exact wr_sm (by omega) (by omega)
  · exact Int.not_lt.2 g1
  · exact Int.not_lt.2 g2
  · generalize K / m = q at *
    exact wr_sm (by omega) (by omega)
  · generalize (K + m - 1) / m = q at *
    exact wr_sm (by omega) (by omega)
theorem impl_LS2 (A : Option Addr) (c : Nat) (l : List (Int × Int)) (n : Nat) (w : World) (hn : l.length = n) (hrd : RdN w A l) (hl : n ≤ 1000000000) :
    Calls Try.prog 18 #[.slice A n c] w fun e w' => e = .returned (.int .i64 (lsB l)) ∧ Below w.heap.size w w' := by
  subst hn
  exact impl_LongestSilence A c l w hrd hl
attribute [local irreducible] tm pt gt tuneB perZ sameR rotTo rotL hasI spreadZ spreadTo onB gpB lsB maxTo sgZ in
set_option maxHeartbeats 12800000 in
set_option maxRecDepth 100000 in
theorem walk_FnRhythms (A : Option Addr) (c : Nat) (l0 : List Int) (w : World) (w0 : l0.length ≤ c ∧ c ≤ maxLen ∧ RdU w A l0.length w.heap.size ∧ True) :
    Calls Try.prog 3 #[.slice A l0.length c] w fun e w' => e = .returned (.bool true) ∧ Below w.heap.size w w' := by
  obtain ⟨_, _, hr, _⟩ := w0
  generalize l0.length = n at *
  by_cases hn : n ≤ 1048576
  · go_enter Try.func3, Try.ntmps3
    go_wp2_with fail
    refine (big_no A n c w hn).mono ?_
    rintro e wz ⟨rfl, rfl⟩
    go_wp2_with fail
    refine (draw_rhythm w A n c hn hr).mono ?_
    rintro e w1 ⟨l, s, A1, c1, hT, hs24, rfl, hrd, _, _, hb1⟩
    have HT := Lib.hid hT
    have hs1 := hT.1.1
    have hll := rhy_len hT
    have hr1 := hr.below hb1 rfl
    have HB0 := Lib.hid hb1
    clear hr hT hb1
    go_wp2_with fail
    refine (at_any A n c w1 0 _ hn hr1 (by omega)).mono ?_
    rintro e vz ⟨x0, hx00, hx01, rfl, rfl⟩
    have hz0 : (0 : Int) < (s : Int) := by omega
    have hz1 : ¬ (s : Int) = 0 := by omega
    have hz2 : ¬ (s : Int) = -1 := by omega
    have hz3 : x0.tmod (s : Int) = x0 % (s : Int) := Int.tmod_eq_emod_of_nonneg hx00
    have hz4 := Int.emod_nonneg x0 hz1
    have hz5 := Int.emod_lt_of_pos x0 hz0
    go_upto_region 6 with fail
    obtain ⟨b, hbb⟩ : ∃ b : Nat, (b : Int) = x0 % (s : Int) := ⟨(x0 % (s : Int)).toNat, by omega⟩
    rw [← hbb]
    rw [← hbb] at hz4 hz5
    have hbs : b < s := by omega
    clear hbb hz3 hz4 hz5 hx00 hx01
    have ho0 := (OwnI.lit0 w1 3)
    have hb0 : Below w1.heap.size w1 (w1.alloc (.cells #[] 3)) := (Below.refl _ _).alloc (Nat.le_refl _) _
    obtain ⟨W, hW⟩ : ∃ W, W = w1.alloc (.cells #[] 3) := ⟨_, rfl⟩
    rw [← hW] at ho0 hb0
    try rw [← hW]
    have HZ0 := Lib.hid (show rotTo l s b 0 = [] by unfold rotTo; rfl)
    have HWW := Lib.hid hW
    clear hW
    go_wp2_with fail
    go_loopw [6, 7] (fun v i wr => ∃ K : Nat, K ≤ s ∧ i = .int .i64 K ∧ OwnI 3 w1.heap.size wr v (rotTo l s b K) ∧ Below w1.heap.size w1 wr) (fun _ i _ => s - (intOf i).toNat)
    case atStart => exact ⟨0, by omega, rfl, by rw [HZ0.out]; first | exact ho0 | (rw [← HWW.out]; exact ho0), by first | exact hb0 | (rw [← HWW.out]; exact hb0)⟩
    case round =>
      clear ho0 hb0
      obtain ⟨K, hK, rfl, ho, hb⟩ := hrel
      by_cases hlt : K < s
      · have hlt' : (K : Int) < (s : Int) := by omega
        have hw1 : wrap64 ((K : Int) + (s : Int)) = (K : Int) + (s : Int) := by unfold wrap64; omega
        have hw2 : wrap64 ((K : Int) + (s : Int) - (b : Int)) = (K : Int) + (s : Int) - (b : Int) := by unfold wrap64; omega
        have hw3 : ((K : Int) + (s : Int) - (b : Int)).tmod (s : Int) = ((K : Int) + (s : Int) - (b : Int)) % (s : Int) := Int.tmod_eq_emod_of_nonneg (by omega)
        have hlen : (rotTo l s b K).length ≤ 1000000000 := by have := rot_len l s b K; omega
        have hsz := hb.size
        go_wp2_with fail
        refine (has_any A1 c1 l _ wr (hrd.below hb rfl) (by omega)).mono ?_
        rintro e vz ⟨rfl, rfl⟩
        have hq : ∀ y, y = ((K : Int) + (s : Int) - (b : Int)) % (s : Int) → hasI l y = hasI l (((K : Int) + (s : Int) - (b : Int)) % (s : Int)) := fun y e => by rw [e]
        cases hh : hasI l (((K : Int) + (s : Int) - (b : Int)) % (s : Int))
        · have HN := Lib.hid (rot_no hh)
          have HQ := Lib.hid (fun y e => (hq y e).trans hh)
          clear hh hq
          first | rw [HQ.out _ rfl] | rw [HQ.out _ (by rw [Int.add_sub_assoc])] | skip
          go_wp2
          go_roundw
          case rel => exact ⟨K + 1, by omega, by go_num, by rw [HN.out]; exact ho, hb⟩
          case measure => simp [intOf]; omega
        · have HN := Lib.hid (rot_yes hh)
          have HQ := Lib.hid (fun y e => (hq y e).trans hh)
          clear hh hq
          first | rw [HQ.out _ rfl] | rw [HQ.out _ (by rw [Int.add_sub_assoc])] | skip
          go_wp2_with (at_builtin; refine app_int rfl _ _ 24 rfl 3 Try.underlying24 (by kernel_rfl) w1.heap.size _ (rotTo l s b K) (K : Int) ho rfl rfl hlen hsz ?_; intro v' w4 hown1 hb4)
          have hbx := hb.trans hb4
          first
            | exact ⟨⟨K + 1, by omega, by go_num, by rw [HN.out]; exact hown1, hbx⟩, by simp [intOf]; omega⟩
            | (go_roundw
               case rel => exact ⟨K + 1, by omega, by go_num, by rw [HN.out]; exact hown1, hbx⟩
               case measure => simp [intOf]; omega)
      · have hlt' : ¬ (K : Int) < (s : Int) := by omega
        obtain rfl : K = s := by omega
        obtain ⟨A2, c2, rfl, _, _, hrm0⟩ := ho.rd
        have HRL := Lib.hid (show rotTo l K b K = rotL l K b by unfold rotL; rfl)
        rw [HRL.out] at hrm0 ⊢
        have hml : (rotL l K b).length ≤ 1000000000 := by have := rotL_len HT.out hbs; omega
        obtain ⟨p, hp1, hp2, hp3, hp4, hp5, hp6⟩ := per_law HT.out hbs
        have E1 := Lib.hid hp1
        have E2 := Lib.hid hp2
        have ES := Lib.hid (same_fwd HT.out hbs)
        have EB := Lib.hid (same_back HT.out hbs)
        clear ho hp1 hp2
        go_wp2_with fail
        refine (impl_Per A1 c1 l K wr (hrd.below hb rfl) (by omega)).mono ?_
        rintro e w3 ⟨rfl, hv⟩
        rw [E1.out]
        have hb3 := hb.trans (hv.mono hb.size)
        have hrm := hrm0.below hv rfl
        have hrl := hrd.below hb3 rfl
        clear hv hb hrm0
        go_upto_region 12 with fail
        go_cut [95] from 53 (fun x wx => x = .bool false ∧ Below w3.heap.size w3 wx)
        case first =>
          have g1 : ¬ (p : Int) < 1 := by omega
          have g2 : ¬ (p : Int) = 0 := by omega
          have g3 : ¬ (p : Int) = -1 := by omega
          have g4 : (K : Int).tmod (p : Int) = 0 := by rw [Int.tmod_eq_emod_of_nonneg (by omega)]; exact hp5
          have g5 := mul_bd l.length p (by omega) (by omega)
          have g6 : wrap64 ((l.length : Int) * (p : Int)) = (l.length : Int) * (p : Int) := by have := g5.1; have := g5.2; unfold wrap64; omega
          have g7 : ((l.length : Int) * (p : Int)).tmod (K : Int) = 0 := by rw [Int.tmod_eq_emod_of_nonneg g5.1]; exact hp6
          have t1 : decide ((p : Int) < 1) = false := decide_eq_false g1
          clear hp5 hp6 g5
          go_wp2_with fail
          refine (impl_SameR A1 A2 c1 c2 l (rotL l K b) K w3 hrl hrm (by omega) hml).mono ?_
          rintro e w4 ⟨rfl, hv4⟩
          rw [ES.out]
          go_wp2_with fail
          refine (impl_SameR A2 A1 c2 c1 (rotL l K b) l K w4 (hrm.below hv4 rfl) (hrl.below hv4 rfl) hml (by omega)).mono ?_
          rintro e w5 ⟨rfl, hv5⟩
          rw [EB.out]
          have hb5 := hv4.trans (hv5.mono hv4.size)
          clear hv4 hv5
          go_wp2_with fail
          refine (impl_Per A2 c2 (rotL l K b) K w5 (hrm.below hb5 rfl) hml).mono ?_
          rintro e w6 ⟨rfl, hv6⟩
          rw [E2.out]
          have hb6 := hb5.trans (hv6.mono hb5.size)
          clear hv6 hb5
          by_cases hl0 : 0 < l.length
          · have i0 : decide ((0 : Int) < (l.length : Int)) = true := decide_eq_true (by omega)
            go_wp2_with fail
            go_meet
            case rel => exact ⟨rfl, hb6⟩
          · have i0 : decide ((0 : Int) < (l.length : Int)) = false := decide_eq_false (by omega)
            go_wp2_with fail
            go_meet
            case rel => exact ⟨rfl, hb6⟩
        case rest =>
          obtain ⟨rfl, hbc⟩ := hcut
          have hb4 := hb3.trans (hbc.mono hb3.size)
          clear hbc hb3 hrm hrl hp5 hp6
          go_wp2_with fail
          refine (at_any A n c wc 1 _ hn (hr1.below hb4 rfl) (by omega)).mono ?_
          rintro e vz ⟨x1, hx10, hx11, rfl, rfl⟩
          obtain ⟨hy0, hy1, hy2, hy3, m, hm, hmK⟩ := md_facts (K := K) (x := x1) hs24 hx10
          clear hy0
          go_wp2_with fail
          rw [← hm]
          clear hm hy1 hy2 hy3 hx10 hx11
          refine (impl_Spread m K wc).mono ?_
          rintro e w5 ⟨A3, c3, rfl, _, _, _, _, hrB, hv⟩
          have HSP := Lib.hid (sp_ok hs1 hs24 hmK)
          rw [HSP.out] at hrB ⊢
          have hBl := spreadTo_length m K m
          have HBL := Lib.hid hBl
          have hq1 : (((spreadTo m K m).length : Int) != (m : Int)) = false := by rw [hBl]; simp
          have hb5 := hb4.trans (hv.mono hb4.size)
          clear hv hb4 hBl
          obtain ⟨S, hS⟩ : ∃ S : Int, S = (K : Int) := ⟨_, rfl⟩
          obtain ⟨M, hM⟩ : ∃ M : Int, M = (m : Int) := ⟨_, rfl⟩
          rw [← hM] at hq1
          rw [← hS, ← hM]
          have HSS := Lib.hid hS
          have HMM := Lib.hid hM
          clear hS hM hz0 hz1 hz2
          go_wp2
          go_loopw [11] (fun i wr => ∃ k : Nat, k ≤ m ∧ i = .int .i64 k ∧ Below w5.heap.size w5 wr) (fun i _ => m - (intOf i).toNat)
          case atStart => exact ⟨0, by omega, rfl, Below.refl _ _⟩
          case round =>
            obtain ⟨k, hk, rfl, hbk⟩ := hrel
            by_cases hkm : k < m
            · obtain ⟨bb, bo, rfl, bl, hcB⟩ := hrB (by rw [HBL.out]; omega)
              have k1 := (hbk.cell (p := ⟨bb, bo + k, none⟩) bl).trans (hcB k (by rw [HBL.out]; exact hkm))
              have h0i : (0 : Int) ≤ (k : Int) := by omega
              have h0j : (k : Int) < M := by rw [HMM.out]; omega
              have h0l : (k : Int) < ((spreadTo m K m).length : Int) := by rw [HBL.out]; omega
              by_cases hk1 : k + 1 < m
              · have e1 : (k : Int) + 1 < M := by rw [HMM.out]; omega
                have e2 : (0 : Int) ≤ (k : Int) + 1 := by omega
                have e3 : (k : Int) + 1 < ((spreadTo m K m).length : Int) := by rw [HBL.out]; omega
                have k2 := (hbk.cell (p := ⟨bb, bo + (k + 1), none⟩) bl).trans (hcB (k + 1) (by rw [HBL.out]; exact hk1))
                obtain ⟨u, v, q1, q2, hu, hv1, hv2, d1, d2, d3, d4, d5, d6, d7, d8, d9, d10, d11⟩ := gap_facts (m := m) (K := K) (k := k) HSS.out HMM.out hs24 hmK hkm
                rw [hu] at k1
                rw [hv1 hk1] at k2
                clear hcB hu hv1 hv2
                go_wp2
                go_roundw
                case rel => exact ⟨k + 1, hkm, by go_num, hbk⟩
                case measure => clear d4 d5 d7 d10 d11; simp [intOf]; omega
              · have e1 : ¬ (k : Int) + 1 < M := by rw [HMM.out]; omega
                obtain ⟨u, v, q1, q2, hu, hv1, hv2, d1, d2, d3, d4, d5, d6, d7, d8, d9, d10, d11⟩ := gap_facts (m := m) (K := K) (k := k) HSS.out HMM.out hs24 hmK hkm
                rw [hu] at k1
                have hv3 := hv2 hk1
                rw [← hv3] at d7 d8 d9
                clear hcB hu hv1 hv2 hv3
                go_wp2
                go_roundw
                case rel => exact ⟨k + 1, hkm, by go_num, hbk⟩
                case measure => clear d4 d5 d7 d10 d11; simp [intOf]; omega
            · have h0j : ¬ (k : Int) < M := by rw [HMM.out]; omega
              have hb6 := hb5.trans (hbk.mono hb5.size)
              have hr6 := hr1.below hb6 rfl
              have HB6 := Lib.hid hb6
              clear hbk hb5 hb6 hrB hr1
              go_wp2_with fail
              refine (draw_tune wr A n c hn (hr6.up (Nat.le_trans HB0.out.size HB6.out.size))).mono ?_
              rintro e w7 ⟨t, hTT, A4, c4, rfl, _, _, _, _, hrt, hb7⟩
              have htB := hTT.1
              have HTB := Lib.hid htB
              have htl := hTT.2.1
              obtain ⟨hol, hgl, hoz, hge, hsum, hls⟩ := gap_law htB (by omega)
              have HLS := Lib.hid hls
              have HGE := Lib.hid hge
              have HMR := Lib.hid (max_rng (fun k hk => ⟨(hge k hk).1, (hge k hk).2.1⟩))
              have hgl40 := gpB_len t
              have HB7 := Lib.hid (HB6.out.trans (hb7.mono HB6.out.size))
              clear hr6 hTT htB hls hge hb7
              go_wp2_with fail
              refine (impl_OnTimes A4 c4 t w7 hrt (by omega)).mono ?_
              rintro e w8 ⟨A5, c5, rfl, _, _, _, _, _, hb8⟩
              have hrt8 := hrt.below hb8 rfl
              go_wp2_with fail
              refine (impl_GapsOf A4 c4 t w8 hrt8 (by omega)).mono ?_
              rintro e w9 ⟨A6, c6, rfl, _, _, _, _, hrg, hb9⟩
              have hrt9 := hrt8.below hb9 rfl
              have HB9 := Lib.hid (HB7.out.trans ((hb8.trans (hb9.mono hb8.size)).mono HB7.out.size))
              clear hrt hrt8 hb8 hb9
              go_wp2
              go_loopw [17, 18, 19] (fun a v i wr => ∃ k : Nat, k ≤ (gpB t).length ∧ a = .int .i64 (sgZ (onB t) k) ∧ v = .int .i64 (maxTo (gpB t) k) ∧ i = .int .i64 k ∧ Below w9.heap.size w9 wr) (fun _ _ i _ => (gpB t).length - (intOf i).toNat)
              case atStart => exact ⟨0, by omega, by rw [sg_zero], by unfold maxTo; rfl, rfl, Below.refl _ _⟩
              case round =>
                obtain ⟨k, hk, rfl, rfl, rfl, hbk⟩ := hrel
                by_cases hkg : k < (gpB t).length
                · obtain ⟨gb, go, rfl, gl, hcg⟩ := hrg (by omega)
                  have k1 := (hbk.cell (p := ⟨gb, go + k, none⟩) gl).trans (hcg k hkg)
                  have h0i : (0 : Int) ≤ (k : Int) := by omega
                  have h0j : (k : Int) < ((gpB t).length : Int) := by omega
                  have x1 := (HGE.out k hkg).1
                  have x2 := (HGE.out k hkg).2.1
                  have x3 : ¬ gt (gpB t) k < 1 := by omega
                  have r1 := sg_rng (t := t) (K := k) (by omega)
                  have r2 := HMR.out k (by omega)
                  have HSG := Lib.hid (sg_succ HTB.out (by omega) hkg)
                  have HMS := Lib.hid (mx_succ (gpB t) k)
                  have hww : wrap64 (sgZ (onB t) k + gt (gpB t) k) = sgZ (onB t) k + gt (gpB t) k := by unfold wrap64; omega
                  clear hcg
                  go_wp2
                  go_roundw
                  case rel => exact ⟨k + 1, by omega, by rw [HSG.out], by rw [HMS.out], by go_num, hbk⟩
                  case measure => simp [intOf]; omega
                · obtain rfl : k = (gpB t).length := by omega
                  have h0j : ¬ ((gpB t).length : Int) < ((gpB t).length : Int) := by omega
                  have hrtk := hrt9.below hbk rfl
                  have HBK := Lib.hid (HB9.out.trans (hbk.mono HB9.out.size))
                  obtain ⟨MX, hMX⟩ : ∃ z, z = maxTo (gpB t) (gpB t).length := ⟨_, rfl⟩
                  obtain ⟨SG, hSG⟩ : ∃ z, z = sgZ (onB t) (gpB t).length := ⟨_, rfl⟩
                  have HL2 := Lib.hid (show lsB t = MX by rw [HLS.out, hMX])
                  have hsum2 : 0 < t.length → SG = tm t (t.length - 1) - tm t 0 := fun h => by rw [hSG]; unfold sgZ; exact hsum h
                  rw [← hMX, ← hSG]
                  have wo : wrap64 (((onB t).length : Int) - 1) = ((onB t).length : Int) - 1 := by unfold wrap64; omega
                  have wo2 : IntKind.i64.wrap (((onB t).length : Int) - 1) = ((onB t).length : Int) - 1 := IntWalk.i64_in _ (by omega)
                  have wm : max 0 (((onB t).length : Int) - 1) = ((gpB t).length : Int) := by rw [hgl]; split <;> omega
                  have wi : (if (0 : Int) < ((onB t).length : Int) - 1 then ((onB t).length : Int) - 1 else 0) = ((gpB t).length : Int) := hgl.symm
                  clear hMX hSG hsum hgl hrt9 hbk hrg
                  by_cases ht0 : t.length = 0
                  · have ho0 := hoz.1 ht0
                    have hg0 : (gpB t).length = 0 := by have h9 := wm; omega
                    obtain ⟨nt, hnt⟩ : ∃ n, t.length = n := ⟨_, rfl⟩
                    obtain ⟨no, hno⟩ : ∃ n, (onB t).length = n := ⟨_, rfl⟩
                    obtain ⟨ng, hng⟩ : ∃ n, (gpB t).length = n := ⟨_, rfl⟩
                    rw [hnt] at ht0
                    rw [hno] at ho0
                    rw [hng] at hg0
                    rw [hnt, hno, hng]
                    have HNT := Lib.hid hnt
                    have hnl : nt ≤ 1000000000 := by omega
                    have z1 : ((no : Int) == 0) = true := beq_iff_eq.2 (by omega)
                    have z2 : ((nt : Int) == 0) = true := beq_iff_eq.2 (by omega)
                    have z3 : decide (nt = 0) = true := decide_eq_true ht0
                    have z4 : decide (no = 0) = true := decide_eq_true ho0
                    have z5 : decide ((nt : Int) = 0) = true := decide_eq_true (by omega)
                    have z6 : decide ((no : Int) = 0) = true := decide_eq_true (by omega)
                    have wn : wrap64 ((no : Int) - 1) = (no : Int) - 1 := by unfold wrap64; omega
                    have wn2 : IntKind.i64.wrap ((no : Int) - 1) = (no : Int) - 1 := IntWalk.i64_in _ (by omega)
                    have z8 : (((ng : Nat) : Int) == max 0 ((no : Int) - 1)) = true := by rw [show max (0 : Int) ((no : Int) - 1) = 0 by omega]; exact beq_iff_eq.2 (by omega)
                    have z9 : decide ((0 : Int) < (no : Int) - 1) = false := decide_eq_false (by omega)
                    have z10 : ¬ (0 : Int) < (no : Int) - 1 := by omega
                    have z11 : ¬ (1 : Int) < (no : Int) := by omega
                    have z12 : ((ng : Int) == 0) = true := beq_iff_eq.2 (by omega)
                    have z13 : decide (ng = 0) = true := decide_eq_true hg0
                    clear hsum2 hoz ht0 wm wi wo wo2 ho0 hg0 HTB HLS HGE HMR hgl40 hol htl h0j hk hnt hno hng
                    go_wp2_with fail
                    refine wp_region_noPanic ?_
                    refine wp_region_held_drew (S := fun w' => Below wr.heap.size wr w') (by kernel_rfl) (by exact (Below.refl _ _).drew) (fun hHeld => ?_)
                    refine wpAnyH_take (i := 0) (oi := ⟨some 173, _, _, _, _, _⟩) (v := .slice A6 ng c6) rfl (by kernel_rfl) (by kernel_rfl) (by kernel_rfl) (fun _ _ _ h => h) (Or.inl ⟨by kernel_rfl, by intro w hSw; go_simp⟩) hHeld ?_
                    simp only [Act.put, List.setIfInBounds_toArray, List.set_cons_zero, List.set_cons_succ]
                    refine wpAnyH_take (i := 1) (oi := ⟨some 174, _, _, _, _, _⟩) (v := .int .i64 ng) rfl (by kernel_rfl) (by kernel_rfl) (by kernel_rfl) (fun _ _ _ h => h) (Or.inl ⟨by kernel_rfl, by intro w hSw; go_simp⟩) hHeld ?_
                    simp only [Act.put, List.setIfInBounds_toArray, List.set_cons_zero, List.set_cons_succ]
                    refine wpAnyH_take (i := 2) (oi := ⟨some 175, _, _, _, _, _⟩) (v := .slice A5 no c5) rfl (by kernel_rfl) (by kernel_rfl) (by kernel_rfl) (fun _ _ _ h => h) (Or.inl ⟨by kernel_rfl, by intro w hSw; go_simp⟩) hHeld ?_
                    simp only [Act.put, List.setIfInBounds_toArray, List.set_cons_zero, List.set_cons_succ]
                    refine wpAnyH_take (i := 3) (oi := ⟨some 176, _, _, _, _, _⟩) (v := .int .i64 no) rfl (by kernel_rfl) (by kernel_rfl) (by kernel_rfl) (fun _ _ _ h => h) (Or.inl ⟨by kernel_rfl, by intro w hSw; go_simp⟩) hHeld ?_
                    simp only [Act.put, List.setIfInBounds_toArray, List.set_cons_zero, List.set_cons_succ]
                    refine wpAnyH_take (i := 4) (oi := ⟨some 177, _, _, _, _, _⟩) (v := .int .i64 ((no : Int) - 1)) rfl (by kernel_rfl) (by kernel_rfl) (by kernel_rfl) (fun _ _ _ h => h) (Or.inl ⟨by kernel_rfl, by intro w hSw; go_simp⟩) hHeld ?_
                    simp only [Act.put, List.setIfInBounds_toArray, List.set_cons_zero, List.set_cons_succ]
                    refine wpAnyH_take (i := 5) (oi := ⟨some 178, _, _, _, _, _⟩) (v := .int .i64 (max 0 ((no : Int) - 1))) rfl (by kernel_rfl) (by kernel_rfl) (by kernel_rfl) (fun _ _ _ h => h) (Or.inl ⟨by kernel_rfl, by intro w hSw; go_simp⟩) hHeld ?_
                    simp only [Act.put, List.setIfInBounds_toArray, List.set_cons_zero, List.set_cons_succ]
                    refine wpAnyH_take (i := 6) (oi := ⟨some 179, _, _, _, _, _⟩) (v := .bool true) rfl (by kernel_rfl) (by kernel_rfl) (by kernel_rfl) (fun _ _ _ h => h) (Or.inl ⟨by kernel_rfl, by intro w hSw; go_simp⟩) hHeld ?_
                    simp only [Act.put, List.setIfInBounds_toArray, List.set_cons_zero, List.set_cons_succ]
                    refine wpAnyH_take (i := 7) (oi := ⟨some 180, _, _, _, _, _⟩) (v := .bool true) rfl (by kernel_rfl) (by kernel_rfl) (by kernel_rfl) (fun _ _ _ h => h) (Or.inl ⟨by kernel_rfl, by intro w hSw; go_simp⟩) hHeld ?_
                    simp only [Act.put, List.setIfInBounds_toArray, List.set_cons_zero, List.set_cons_succ]
                    refine wpAnyH_take (i := 8) (oi := ⟨some 181, _, _, _, _, _⟩) (v := .slice A4 nt c4) rfl (by kernel_rfl) (by kernel_rfl) (by kernel_rfl) (fun _ _ _ h => h) (Or.inl ⟨by kernel_rfl, by intro w hSw; go_simp⟩) hHeld ?_
                    simp only [Act.put, List.setIfInBounds_toArray, List.set_cons_zero, List.set_cons_succ]
                    refine wpAnyH_take (i := 10) (oi := ⟨some 183, _, _, _, _, _⟩) (v := .int .i64 MX) rfl (by kernel_rfl) (by kernel_rfl) (by kernel_rfl) (fun _ _ _ h => h) (Or.inl ⟨by kernel_rfl, by intro w hSw; go_simp⟩) hHeld ?_
                    simp only [Act.put, List.setIfInBounds_toArray, List.set_cons_zero, List.set_cons_succ]
                    refine wpAnyH_ready (rs := [9]) (by kernel_rfl) (by simp) ?_
                    refine AllReadyH.cons (o := ⟨some 182, _, _, _, _, _⟩) rfl (fun K hK => ?_) AllReadyH.nil
                    go_simp
                    go_at_call 18
                    go_fit (impl_LS2 A4 c4 t nt _ HNT.out (hrtk.below hHeld rfl) hnl)
                    rintro e wa ⟨rfl, hba⟩
                    rw [HL2.out]
                    go_wp2_with fail
                    refine hK.out _ _ (belR_keep hHeld hba) (fun hHeld2 => ?_)
                    clear hK K
                    try simp only [Act.put, List.setIfInBounds_toArray, List.set_cons_zero, List.set_cons_succ]
                    refine wpAnyH_take (i := 11) (oi := ⟨some 184, _, _, _, _, _⟩) (v := .bool true) rfl (by kernel_rfl) (by kernel_rfl) (by kernel_rfl) (fun _ _ _ h => h) (Or.inl ⟨by kernel_rfl, by intro w hSw; go_simp⟩) hHeld2 ?_
                    simp only [Act.put, List.setIfInBounds_toArray, List.set_cons_zero, List.set_cons_succ]
                    refine wpAnyH_take (i := 12) (oi := ⟨some 185, _, _, _, _, _⟩) (v := .bool true) rfl (by kernel_rfl) (by kernel_rfl) (by kernel_rfl) (fun _ _ _ h => h) (Or.inl ⟨by kernel_rfl, by intro w hSw; go_simp⟩) hHeld2 ?_
                    simp only [Act.put, List.setIfInBounds_toArray, List.set_cons_zero, List.set_cons_succ]
                    refine wpAnyH_take (i := 13) (oi := ⟨some 186, _, _, _, _, _⟩) (v := .bool true) rfl (by kernel_rfl) (by kernel_rfl) (by kernel_rfl) (fun _ _ _ h => h) (Or.inl ⟨by kernel_rfl, by intro w hSw; go_simp⟩) hHeld2 ?_
                    simp only [Act.put, List.setIfInBounds_toArray, List.set_cons_zero, List.set_cons_succ]
                    refine wpAnyH_take (i := 14) (oi := ⟨some 187, _, _, _, _, _⟩) (v := .slice A4 nt c4) rfl (by kernel_rfl) (by kernel_rfl) (by kernel_rfl) (fun _ _ _ h => h) (Or.inl ⟨by kernel_rfl, by intro w hSw; go_simp⟩) hHeld2 ?_
                    simp only [Act.put, List.setIfInBounds_toArray, List.set_cons_zero, List.set_cons_succ]
                    refine wpAnyH_take (i := 15) (oi := ⟨some 188, _, _, _, _, _⟩) (v := .int .i64 nt) rfl (by kernel_rfl) (by kernel_rfl) (by kernel_rfl) (fun _ _ _ h => h) (Or.inl ⟨by kernel_rfl, by intro w hSw; go_simp⟩) hHeld2 ?_
                    simp only [Act.put, List.setIfInBounds_toArray, List.set_cons_zero, List.set_cons_succ]
                    refine wpAnyH_take (i := 16) (oi := ⟨some 189, _, _, _, _, _⟩) (v := .bool true) rfl (by kernel_rfl) (by kernel_rfl) (by kernel_rfl) (fun _ _ _ h => h) (Or.inl ⟨by kernel_rfl, by intro w hSw; go_simp⟩) hHeld2 ?_
                    simp only [Act.put, List.setIfInBounds_toArray, List.set_cons_zero, List.set_cons_succ]
                    refine wpAnyH_take (i := 17) (oi := ⟨some 190, _, _, _, _, _⟩) (v := .bool true) rfl (by kernel_rfl) (by kernel_rfl) (by kernel_rfl) (fun _ _ _ h => h) (Or.inl ⟨by kernel_rfl, by intro w hSw; go_simp⟩) hHeld2 ?_
                    simp only [Act.put, List.setIfInBounds_toArray, List.set_cons_zero, List.set_cons_succ]
                    refine wpAnyH_take (i := 18) (oi := ⟨some 191, _, _, _, _, _⟩) (v := undef) rfl (by kernel_rfl) (by kernel_rfl) (by kernel_rfl) (fun _ _ _ h => h) (Or.inr ⟨by kernel_rfl, rfl⟩) hHeld2 ?_
                    simp only [Act.put, List.setIfInBounds_toArray, List.set_cons_zero, List.set_cons_succ]
                    refine wpAnyH_take (i := 19) (oi := ⟨some 192, _, _, _, _, _⟩) (v := undef) rfl (by kernel_rfl) (by kernel_rfl) (by kernel_rfl) (fun _ _ _ h => h) (Or.inr ⟨by kernel_rfl, rfl⟩) hHeld2 ?_
                    simp only [Act.put, List.setIfInBounds_toArray, List.set_cons_zero, List.set_cons_succ]
                    refine wpAnyH_take (i := 20) (oi := ⟨some 193, _, _, _, _, _⟩) (v := undef) rfl (by kernel_rfl) (by kernel_rfl) (by kernel_rfl) (fun _ _ _ h => h) (Or.inr ⟨by kernel_rfl, rfl⟩) hHeld2 ?_
                    simp only [Act.put, List.setIfInBounds_toArray, List.set_cons_zero, List.set_cons_succ]
                    refine wpAnyH_take (i := 21) (oi := ⟨some 194, _, _, _, _, _⟩) (v := undef) rfl (by kernel_rfl) (by kernel_rfl) (by kernel_rfl) (fun _ _ _ h => h) (Or.inr ⟨by kernel_rfl, rfl⟩) hHeld2 ?_
                    simp only [Act.put, List.setIfInBounds_toArray, List.set_cons_zero, List.set_cons_succ]
                    refine wpAnyH_take (i := 22) (oi := ⟨some 195, _, _, _, _, _⟩) (v := undef) rfl (by kernel_rfl) (by kernel_rfl) (by kernel_rfl) (fun _ _ _ h => h) (Or.inr ⟨by kernel_rfl, rfl⟩) hHeld2 ?_
                    simp only [Act.put, List.setIfInBounds_toArray, List.set_cons_zero, List.set_cons_succ]
                    refine wpAnyH_take (i := 23) (oi := ⟨some 196, _, _, _, _, _⟩) (v := undef) rfl (by kernel_rfl) (by kernel_rfl) (by kernel_rfl) (fun _ _ _ h => h) (Or.inr ⟨by kernel_rfl, rfl⟩) hHeld2 ?_
                    simp only [Act.put, List.setIfInBounds_toArray, List.set_cons_zero, List.set_cons_succ]
                    refine wpAnyH_take (i := 24) (oi := ⟨some 197, _, _, _, _, _⟩) (v := undef) rfl (by kernel_rfl) (by kernel_rfl) (by kernel_rfl) (fun _ _ _ h => h) (Or.inr ⟨by kernel_rfl, rfl⟩) hHeld2 ?_
                    simp only [Act.put, List.setIfInBounds_toArray, List.set_cons_zero, List.set_cons_succ]
                    refine wpAnyH_take (i := 25) (oi := ⟨some 198, _, _, _, _, _⟩) (v := undef) rfl (by kernel_rfl) (by kernel_rfl) (by kernel_rfl) (fun _ _ _ h => h) (Or.inr ⟨by kernel_rfl, rfl⟩) hHeld2 ?_
                    simp only [Act.put, List.setIfInBounds_toArray, List.set_cons_zero, List.set_cons_succ]
                    refine wpAnyH_take (i := 26) (oi := ⟨some 199, _, _, _, _, _⟩) (v := undef) rfl (by kernel_rfl) (by kernel_rfl) (by kernel_rfl) (fun _ _ _ h => h) (Or.inr ⟨by kernel_rfl, rfl⟩) hHeld2 ?_
                    simp only [Act.put, List.setIfInBounds_toArray, List.set_cons_zero, List.set_cons_succ]
                    refine wpAnyH_take (i := 27) (oi := ⟨some 200, _, _, _, _, _⟩) (v := undef) rfl (by kernel_rfl) (by kernel_rfl) (by kernel_rfl) (fun _ _ _ h => h) (Or.inr ⟨by kernel_rfl, rfl⟩) hHeld2 ?_
                    simp only [Act.put, List.setIfInBounds_toArray, List.set_cons_zero, List.set_cons_succ]
                    refine wpAnyH_take (i := 28) (oi := ⟨some 201, _, _, _, _, _⟩) (v := undef) rfl (by kernel_rfl) (by kernel_rfl) (by kernel_rfl) (fun _ _ _ h => h) (Or.inr ⟨by kernel_rfl, rfl⟩) hHeld2 ?_
                    simp only [Act.put, List.setIfInBounds_toArray, List.set_cons_zero, List.set_cons_succ]
                    refine wpAnyH_take (i := 29) (oi := ⟨some 202, _, _, _, _, _⟩) (v := undef) rfl (by kernel_rfl) (by kernel_rfl) (by kernel_rfl) (fun _ _ _ h => h) (Or.inr ⟨by kernel_rfl, rfl⟩) hHeld2 ?_
                    simp only [Act.put, List.setIfInBounds_toArray, List.set_cons_zero, List.set_cons_succ]
                    refine wpAnyH_take (i := 30) (oi := ⟨some 203, _, _, _, _, _⟩) (v := undef) rfl (by kernel_rfl) (by kernel_rfl) (by kernel_rfl) (fun _ _ _ h => h) (Or.inr ⟨by kernel_rfl, rfl⟩) hHeld2 ?_
                    simp only [Act.put, List.setIfInBounds_toArray, List.set_cons_zero, List.set_cons_succ]
                    refine wpAnyH_take (i := 31) (oi := ⟨some 204, _, _, _, _, _⟩) (v := undef) rfl (by kernel_rfl) (by kernel_rfl) (by kernel_rfl) (fun _ _ _ h => h) (Or.inr ⟨by kernel_rfl, rfl⟩) hHeld2 ?_
                    simp only [Act.put, List.setIfInBounds_toArray, List.set_cons_zero, List.set_cons_succ]
                    refine wpAnyH_take (i := 32) (oi := ⟨some 205, _, _, _, _, _⟩) (v := .bool true) rfl (by kernel_rfl) (by kernel_rfl) (by kernel_rfl) (fun _ _ _ h => h) (Or.inl ⟨by kernel_rfl, by intro w hSw; go_simp⟩) hHeld2 ?_
                    simp only [Act.put, List.setIfInBounds_toArray, List.set_cons_zero, List.set_cons_succ]
                    refine wpAnyH_take (i := 33) (oi := ⟨some 206, _, _, _, _, _⟩) (v := .bool true) rfl (by kernel_rfl) (by kernel_rfl) (by kernel_rfl) (fun _ _ _ h => h) (Or.inl ⟨by kernel_rfl, by intro w hSw; go_simp⟩) hHeld2 ?_
                    simp only [Act.put, List.setIfInBounds_toArray, List.set_cons_zero, List.set_cons_succ]
                    refine wpAnyH_take (i := 34) (oi := ⟨some 207, _, _, _, _, _⟩) (v := .bool true) rfl (by kernel_rfl) (by kernel_rfl) (by kernel_rfl) (fun _ _ _ h => h) (Or.inl ⟨by kernel_rfl, by intro w hSw; go_simp⟩) hHeld2 ?_
                    simp only [Act.put, List.setIfInBounds_toArray, List.set_cons_zero, List.set_cons_succ]
                    refine wpAnyH_take (i := 35) (oi := ⟨some 208, _, _, _, _, _⟩) (v := .slice A5 no c5) rfl (by kernel_rfl) (by kernel_rfl) (by kernel_rfl) (fun _ _ _ h => h) (Or.inl ⟨by kernel_rfl, by intro w hSw; go_simp⟩) hHeld2 ?_
                    simp only [Act.put, List.setIfInBounds_toArray, List.set_cons_zero, List.set_cons_succ]
                    refine wpAnyH_take (i := 36) (oi := ⟨some 209, _, _, _, _, _⟩) (v := .int .i64 no) rfl (by kernel_rfl) (by kernel_rfl) (by kernel_rfl) (fun _ _ _ h => h) (Or.inl ⟨by kernel_rfl, by intro w hSw; go_simp⟩) hHeld2 ?_
                    simp only [Act.put, List.setIfInBounds_toArray, List.set_cons_zero, List.set_cons_succ]
                    refine wpAnyH_take (i := 37) (oi := ⟨some 210, _, _, _, _, _⟩) (v := .bool true) rfl (by kernel_rfl) (by kernel_rfl) (by kernel_rfl) (fun _ _ _ h => h) (Or.inl ⟨by kernel_rfl, by intro w hSw; go_simp⟩) hHeld2 ?_
                    simp only [Act.put, List.setIfInBounds_toArray, List.set_cons_zero, List.set_cons_succ]
                    refine wpAnyH_take (i := 38) (oi := ⟨some 211, _, _, _, _, _⟩) (v := .slice A4 nt c4) rfl (by kernel_rfl) (by kernel_rfl) (by kernel_rfl) (fun _ _ _ h => h) (Or.inl ⟨by kernel_rfl, by intro w hSw; go_simp⟩) hHeld2 ?_
                    simp only [Act.put, List.setIfInBounds_toArray, List.set_cons_zero, List.set_cons_succ]
                    refine wpAnyH_take (i := 39) (oi := ⟨some 212, _, _, _, _, _⟩) (v := .int .i64 nt) rfl (by kernel_rfl) (by kernel_rfl) (by kernel_rfl) (fun _ _ _ h => h) (Or.inl ⟨by kernel_rfl, by intro w hSw; go_simp⟩) hHeld2 ?_
                    simp only [Act.put, List.setIfInBounds_toArray, List.set_cons_zero, List.set_cons_succ]
                    refine wpAnyH_take (i := 40) (oi := ⟨some 213, _, _, _, _, _⟩) (v := .bool true) rfl (by kernel_rfl) (by kernel_rfl) (by kernel_rfl) (fun _ _ _ h => h) (Or.inl ⟨by kernel_rfl, by intro w hSw; go_simp⟩) hHeld2 ?_
                    simp only [Act.put, List.setIfInBounds_toArray, List.set_cons_zero, List.set_cons_succ]
                    refine wpAnyH_take (i := 41) (oi := ⟨some 214, _, _, _, _, _⟩) (v := .bool true) rfl (by kernel_rfl) (by kernel_rfl) (by kernel_rfl) (fun _ _ _ h => h) (Or.inl ⟨by kernel_rfl, by intro w hSw; go_simp⟩) hHeld2 ?_
                    simp only [Act.put, List.setIfInBounds_toArray, List.set_cons_zero, List.set_cons_succ]
                    refine wpAnyH_take (i := 42) (oi := ⟨some 215, _, _, _, _, _⟩) (v := .bool true) rfl (by kernel_rfl) (by kernel_rfl) (by kernel_rfl) (fun _ _ _ h => h) (Or.inl ⟨by kernel_rfl, by intro w hSw; go_simp⟩) hHeld2 ?_
                    simp only [Act.put, List.setIfInBounds_toArray, List.set_cons_zero, List.set_cons_succ]
                    refine wpAnyH_take (i := 43) (oi := ⟨some 2, _, _, _, _, _⟩) (v := .bool true) rfl (by kernel_rfl) (by kernel_rfl) (by kernel_rfl) (fun _ _ _ h => h) (Or.inl ⟨by kernel_rfl, by intro w hSw; go_simp⟩) hHeld2 ?_
                    simp only [Act.put, List.setIfInBounds_toArray, List.set_cons_zero, List.set_cons_succ]
                    refine wpAnyH_done (by kernel_rfl) ?_ _
                    refine NoPanic.normal ?_
                    have hH := hHeld2
                    have HF := Lib.hid (HB0.out.trans ((HBK.out.trans (hH.mono HBK.out.size)).mono HB0.out.size))
                    go_wp2
                    go_ret
                    exact ⟨rfl, HF.out⟩
                  · have z1 : (((onB t).length : Int) == 0) = false := beq_eq_false_iff_ne.2 (fun e => ht0 (hoz.2 (by omega)))
                    have z2 : ((t.length : Int) == 0) = false := beq_eq_false_iff_ne.2 (by omega)
                    have z3 : decide ((t.length : Int) = 0) = false := decide_eq_false (by omega)
                    obtain ⟨q, hq⟩ : ∃ q : Nat, t.length = q + 1 := ⟨t.length - 1, by omega⟩
                    have hs3 := hsum2 (by omega)
                    rw [show t.length - 1 = q by omega] at hs3
                    obtain ⟨tb, tof, rfl, tl, hct⟩ := hrtk (by omega)
                    have k1 : wr.cell? ⟨tb, tof, none⟩ = some (.int .i64 (tm t 0)) := by have := (hct 0 (by omega)).1; simpa using this
                    have k2 := (hct q (by omega)).1
                    have a0 := tm_rng HTB.out (show 0 < t.length by omega)
                    have aq := tm_rng HTB.out (show q < t.length by omega)
                    have h00 : (0 : Int) < (t.length : Int) := by omega
                    have h01 : 0 < t.length := by omega
                    have h02 : ¬ t = [] := fun e => by rw [e] at h01; simp at h01
                    have h03 : decide ((0 : Int) < (t.length : Int)) = true := decide_eq_true h00
                    have h04 : decide (0 < t.length) = true := decide_eq_true h01
                    have h0q : (0 : Int) ≤ (q : Int) := by omega
                    have h1q : (q : Int) < (t.length : Int) := by omega
                    have wq : wrap64 ((t.length : Int) - 1) = (q : Int) := by unfold wrap64; omega
                    have wq2 : IntKind.i64.wrap ((t.length : Int) - 1) = (q : Int) := by rw [show ((t.length : Int) - 1) = (q : Int) by omega]; exact IntWalk.i64_in _ (by omega)
                    have wd : wrap64 (tm t q - tm t 0) = tm t q - tm t 0 := by unfold wrap64; omega
                    have wd2 : IntKind.i64.wrap (tm t q - tm t 0) = tm t q - tm t 0 := IntWalk.i64_in _ (by omega)
                    have hsq : (SG == tm t q - tm t 0) = true := beq_iff_eq.2 hs3
                    clear hsum2 hoz ht0 hct hs3 hq a0 aq
                    have z8 : (((gpB t).length : Int) == max 0 (((onB t).length : Int) - 1)) = true := by rw [wm]; simp
                    by_cases hpos : (0 : Int) < ((onB t).length : Int) - 1
                    · have p1 : decide ((0 : Int) < ((onB t).length : Int) - 1) = true := decide_eq_true hpos
                      have p2 : (1 : Int) < ((onB t).length : Int) := by omega
                      have p3 : (((gpB t).length : Int) == ((onB t).length : Int) - 1) = true := beq_iff_eq.2 (by have h9 := wm; omega)
                      clear wm wi
                      go_wp2_with fail
                      go_region_held3 (fun w' => w'.cell? ⟨tb, tof, none⟩ = some (.int .i64 (tm t 0)) ∧ w'.cell? ⟨tb, tof + q * 2, none⟩ = some (.int .i64 (tm t q)) ∧ Below wr.heap.size wr w')
                        (first | exact ⟨k1, k2, (Below.refl _ _).drew⟩ | exact ⟨k1, k2, Below.refl _ _⟩ | assumption | exact heldR_keep tl (by assumption) hba)
                        ((first | (go_at_call 18; go_fit (impl_LongestSilence (some ⟨tb, tof, none⟩) c4 t _ (hrtk.below (heldR_bel (by assumption)) rfl) (by omega)); rintro e wa ⟨rfl, hba⟩; rw [HL2.out])))
                      have hH := heldR_bel (by assumption)
                      have HF := Lib.hid (HB0.out.trans ((HBK.out.trans (hH.mono HBK.out.size)).mono HB0.out.size))
                      go_wp2
                      go_ret
                      exact ⟨rfl, HF.out⟩
                    · have p1 : decide ((0 : Int) < ((onB t).length : Int) - 1) = false := decide_eq_false hpos
                      have p2 : ¬ (1 : Int) < ((onB t).length : Int) := by omega
                      have p3 : (((gpB t).length : Int) == 0) = true := beq_iff_eq.2 (by have h9 := wm; omega)
                      clear wm wi
                      go_wp2_with fail
                      go_region_held3 (fun w' => w'.cell? ⟨tb, tof, none⟩ = some (.int .i64 (tm t 0)) ∧ w'.cell? ⟨tb, tof + q * 2, none⟩ = some (.int .i64 (tm t q)) ∧ Below wr.heap.size wr w')
                        (first | exact ⟨k1, k2, (Below.refl _ _).drew⟩ | exact ⟨k1, k2, Below.refl _ _⟩ | assumption | exact heldR_keep tl (by assumption) hba)
                        ((first | (go_at_call 18; go_fit (impl_LongestSilence (some ⟨tb, tof, none⟩) c4 t _ (hrtk.below (heldR_bel (by assumption)) rfl) (by omega)); rintro e wa ⟨rfl, hba⟩; rw [HL2.out])))
                      have hH := heldR_bel (by assumption)
                      have HF := Lib.hid (HB0.out.trans ((HBK.out.trans (hH.mono HBK.out.size)).mono HB0.out.size))
                      go_wp2
                      go_ret
                      exact ⟨rfl, HF.out⟩
  · go_enter Try.func3, Try.ntmps3
    go_wp2_with fail
    refine (big_yes A n c w hn).mono ?_
    rintro e wz ⟨rfl, rfl⟩
    go_wp2
    go_ret
    exact ⟨rfl, Below.refl _ _⟩
end Go.Proofs.Ytkbceojeahninaa
