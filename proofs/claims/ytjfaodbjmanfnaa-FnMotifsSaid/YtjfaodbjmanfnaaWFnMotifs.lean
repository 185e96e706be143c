/- The walk of FnMotifs. -/
import Derived.Test.YtjfaodbjmanfnaaMotP
import Derived.Test.YtjfaodbjmanfnaaSamL
import Derived.Test.YtjfaodbjmanfnaaTwice
import Derived.Test.YtjfaodbjmanfnaaRep
import Derived.Test.YtjfaodbjmanfnaaArgB
namespace Go.Proofs.Ytjfaodbjmanfnaa
open Go.ChangeShapes Go.WideShapes Go.ChangeAt Go.RowKit
set_option linter.unusedVariables false
theorem rng_mk {x : Int} (h1 : -9223372036854775808 ≤ x) (h2 : x ≤ 9223372036854775807) : Rng x := by
  unfold Rng
  simp [Lit.wf, IntKind.min, IntKind.max, IntKind.signed, IntKind.bits]
  omega
theorem rd_four (w : World) (e : TypeId) : RdN (w.alloc (.cells #[.int .i64 0, .int .i64 3, .int .i64 2, .int .i64 4, .int .i64 4, .int .i64 3, .int .i64 6, .int .i64 4] e)) (some ⟨w.heap.size, 0, none⟩) fourL := by
  intro _
  refine ⟨w.heap.size, 0, rfl, by simp, fun j hj => ?_⟩
  have hj4 : j < 4 := hj
  match j, hj4 with
  | 0, _ => simp [go_sem, tm, pt, fourL]
  | 1, _ => simp [go_sem, tm, pt, fourL]
  | 2, _ => simp [go_sem, tm, pt, fourL]
  | 3, _ => simp [go_sem, tm, pt, fourL]
attribute [local irreducible] tm pt gt tuneB lrZ motB repB subL parB parZ occB ocsZ higL higB higR hasI smL in
set_option maxHeartbeats 12800000 in
set_option maxRecDepth 100000 in
theorem walk_FnMotifs (A : Option Addr) (c : Nat) (l0 : List Int) (w : World) (w0 : l0.length ≤ c ∧ c ≤ maxLen ∧ RdU w A l0.length w.heap.size ∧ True) :
    Calls Try.prog 3 #[.slice A l0.length c] w fun e w' => e = .returned (.bool true) ∧ Below w.heap.size w w' := by
  obtain ⟨_, _, hr, _⟩ := w0
  generalize l0.length = n at *
  by_cases hn : n ≤ 1048576
  · go_enter Try.func3, Try.ntmps3
    go_wp2_with fail
    refine (big_no A n c w hn).mono ?_
    rintro e wz ⟨rfl, rfl⟩
    go_wp2_with fail
    refine (draw_twice w A n c hn hr).mono ?_
    rintro e w1 ⟨t, hT, A1, c1, rfl, _, hlc, hcm, hA1, hrd, hb1⟩
    have HCM := Lib.hid hcm
    clear hcm
    have hB := hT.1
    have HB := Lib.hid hB
    have hl22 := hT.2
    have hr1 := hr.below hb1 rfl
    have HB0 := Lib.hid hb1
    have HPN := Lib.hid (par_no (t := t))
    have HM40 := Lib.hid (mot_40 hB (by omega))
    have hml := fun m h1 h2 => mot_law hB (m := m) h1 h2 (by omega)
    obtain ⟨hrl1, hrl2⟩ := rep_law t
    have hrp := repB_yes hB
    obtain ⟨R, hR⟩ : ∃ R : Int, R = (lrZ t t.length : Nat) := ⟨_, rfl⟩
    have hrk1 : 0 < t.length → R < (t.length : Int) := fun h => by have := hrl1 h; omega
    have hrk2 : 1 < t.length → 1 ≤ R := fun h => by have := hrl2 h; omega
    have hR0 : ¬ R < 0 := by omega
    rw [← hR] at hrp
    simp only [← hR] at hml
    have HML := Lib.hid hml
    have HRP := Lib.hid hrp
    clear hr hT hR hrp hb1 hB hml hrl1 hrl2
    go_wp2_with fail
    refine (impl_Rep A1 c1 t w1 hrd hlc HCM.out (by omega)).mono ?_
    rintro e w2 ⟨rfl, hb2⟩
    rw [HRP.out]
    by_cases hn0 : 0 < t.length
    · have hi0 : (0 : Int) < (t.length : Int) := by omega
      have hi1 : ¬ (t.length : Int) ≤ R := by have := hrk1 hn0; omega
      by_cases hn1 : 1 < t.length
      · have hj1 : (1 : Int) < (t.length : Int) := by omega
        have hj2 : ¬ R < 1 := by have := hrk2 hn1; omega
        clear hrk1 hrk2
        go_wp2
        go_loopw [6] (fun i wr => ∃ m : Nat, 1 ≤ m ∧ m ≤ t.length + 1 ∧ i = .int .i64 m ∧ Below w1.heap.size w1 wr) (fun i _ => t.length + 1 - (intOf i).toNat)
        case atStart => exact ⟨1, by omega, by omega, rfl, hb2⟩
        case round =>
          obtain ⟨m, hm1, hm2, rfl, hb⟩ := hrel
          by_cases hlt : m ≤ t.length
          · have hlt' : (m : Int) ≤ (t.length : Int) := by omega
            obtain ⟨C, hC, hC1, hC2, hC3⟩ := HML.out m hm1 hlt
            have HC := Lib.hid hC
            have g1 : ¬ C < 1 := by omega
            have g2 : ¬ (t.length : Int) - (m : Int) + 1 < C := by omega
            have gw1 : wrap64 ((t.length : Int) - (m : Int)) = (t.length : Int) - (m : Int) := by unfold wrap64; omega
            have gw2 : wrap64 ((t.length : Int) - (m : Int) + 1) = (t.length : Int) - (m : Int) + 1 := by unfold wrap64; omega
            by_cases hq : (m : Int) ≤ R
            · have g3 := hC3.2 hq
              clear hC hC3
              go_wp2_with fail
              refine (impl_Mot A1 c1 t m wr (hrd.below hb rfl) hlc HCM.out (by omega)).mono ?_
              rintro e v1 ⟨rfl, hv1⟩
              rw [HC.out]
              have hbb := hb.trans (hv1.mono hb.size)
              clear hv1 hb
              go_wp2
              go_roundw
              case rel => exact ⟨m + 1, by omega, by omega, by go_num, hbb⟩
              case measure => simp [intOf]; omega
            · have g3 : decide (C < (t.length : Int) - (m : Int) + 1) = false := decide_eq_false fun h => hq (hC3.1 h)
              have g4 : decide (C ≤ (t.length : Int) - (m : Int)) = false := decide_eq_false fun h => hq (hC3.1 (by omega))
              clear hC hC3
              go_wp2_with fail
              refine (impl_Mot A1 c1 t m wr (hrd.below hb rfl) hlc HCM.out (by omega)).mono ?_
              rintro e v1 ⟨rfl, hv1⟩
              rw [HC.out]
              have hbb := hb.trans (hv1.mono hb.size)
              clear hv1 hb
              go_wp2
              go_roundw
              case rel => exact ⟨m + 1, by omega, by omega, by go_num, hbb⟩
              case measure => simp [intOf]; omega
          · have hlt' : ¬ (m : Int) ≤ (t.length : Int) := by omega
            clear hlt hm1 hm2
            go_wp2_with fail
            refine (at_any A n c wr 0 _ hn (hr1.below hb rfl) (by omega)).mono ?_
            rintro e vz ⟨x0, hx00, hx01, rfl, rfl⟩
            have hz1 : ¬ (t.length : Int) = 0 := by omega
            have hz2 : ¬ (t.length : Int) = -1 := by omega
            have hz3 : x0.tmod (t.length : Int) = x0 % (t.length : Int) := Int.tmod_eq_emod_of_nonneg hx00
            have hz4 := Int.emod_nonneg x0 hz1
            have hz5 := Int.emod_lt_of_pos x0 hi0
            go_wp2_with fail
            obtain ⟨f, hf⟩ : ∃ f : Nat, (f : Int) = x0 % (t.length : Int) := ⟨(x0 % (t.length : Int)).toNat, by omega⟩
            rw [← hf]
            rw [← hf] at hz4 hz5
            clear hf hz3 hz1 hz2
            refine (at_any A n c wr 1 _ hn (hr1.below hb rfl) (by omega)).mono ?_
            rintro e vz ⟨x1, hx10, hx11, rfl, rfl⟩
            have hy0 : wrap64 ((t.length : Int) - (f : Int)) = (t.length : Int) - (f : Int) := by unfold wrap64; omega
            have hy1 : ¬ (t.length : Int) - (f : Int) = 0 := by omega
            have hy2 : ¬ (t.length : Int) - (f : Int) = -1 := by omega
            have hy3 : x1.tmod ((t.length : Int) - (f : Int)) = x1 % ((t.length : Int) - (f : Int)) := Int.tmod_eq_emod_of_nonneg hx10
            have hy4 := Int.emod_nonneg x1 hy1
            have hy5 := Int.emod_lt_of_pos x1 (show 0 < (t.length : Int) - (f : Int) by omega)
            have hw3 : wrap64 (1 + x1 % ((t.length : Int) - (f : Int))) = 1 + x1 % ((t.length : Int) - (f : Int)) := by unfold wrap64; omega
            go_wp2_with fail
            obtain ⟨m', hqq⟩ : ∃ m' : Nat, (m' : Int) = 1 + x1 % ((t.length : Int) - (f : Int)) := ⟨(1 + x1 % ((t.length : Int) - (f : Int))).toNat, by omega⟩
            rw [← hqq]
            have hm'1 : 1 ≤ m' := by omega
            have hfm : f + m' ≤ t.length := by omega
            have HPL := Lib.hid (par_law HB.out (f := f) (m := m') hm'1 hfm)
            clear hqq hw3 hy0 hy1 hy2 hy3 hy4 hy5 hx00 hx01 hx10 hx11
            refine (impl_PartOf A1 c1 t f (m' : Int) wr (hrd.below hb rfl) hlc HCM.out (by omega) hA1 (rng_mk (by omega) (by omega)) (rng_mk (by omega) (by omega))).mono ?_
            rintro e v1 ⟨A2, c2, rfl, _, _, _, hA2, hrp, hv1⟩
            rw [HPL.out.1]
            rw [HPL.out.2.1] at hrp ⊢
            obtain ⟨p, hp⟩ : ∃ p, p = subL t f m' := ⟨_, rfl⟩
            have hpl : p.length = m' := by rw [hp]; exact HPL.out.2.2.1
            have HPT := Lib.hid (show tuneB p = true by rw [hp]; exact HPL.out.2.2.2.1)
            have hoc : occB t p (f : Int) = true := by rw [hp]; exact HPL.out.2.2.2.2
            have HOC := Lib.hid hoc
            have HHS := Lib.hid (ocs_has hoc (by omega))
            have HEA := Lib.hid (fun k h => ocs_each (t := t) (m := p) (k := k) h)
            rw [← hp] at hrp ⊢
            have hq1 : ((p.length : Int) != (m' : Int)) = false := by rw [hpl]; simp
            have hp40 : p.length ≤ 40 := by omega
            have hb1' := hb.trans (hv1.mono hb.size)
            have hrt := hrd.below hb1' rfl
            have HPLN := Lib.hid hpl
            clear hp hpl hoc hv1 hb HPL
            go_wp2_with fail
            refine (impl_Occs A1 A2 c1 c2 t p v1 hrt hrp (by omega) (by omega)).mono ?_
            rintro e v2 ⟨A3, c3, rfl, _, _, _, _, hro, hv2⟩
            have hb2' := hb1'.trans (hv2.mono hb1'.size)
            have hrp2 := hrp.below hv2 rfl
            have hol := ocsZ_len t p t.length
            clear hv2 hb1' hrt hrp
            go_wp2_with fail
            refine (has_any A3 c3 (ocsZ t p t.length) f v2 hro (by omega)).mono ?_
            rintro e vz ⟨rfl, rfl⟩
            rw [HHS.out]
            go_wp2_with fail
            refine (impl_Occ A1 A2 c1 c2 t p f v2 (hrd.below hb2' rfl) hrp2 (by omega) (by omega)).mono ?_
            rintro e v3 ⟨rfl, hv3⟩
            rw [HOC.out]
            have hb3 := hb2'.trans (hv3.mono hb2'.size)
            have hrp3 := hrp2.below hv3 rfl
            have hro3 := hro.below hv3 rfl
            clear hv3 hb2' hrp2 hro
            go_wp2
            go_loopw [13] (fun i wr => ∃ k : Nat, k ≤ (ocsZ t p t.length).length ∧ i = .int .i64 k ∧ Below v3.heap.size v3 wr) (fun i _ => (ocsZ t p t.length).length - (intOf i).toNat)
            case atStart => exact ⟨0, by omega, rfl, Below.refl _ _⟩
            case round =>
              obtain ⟨k, hk, rfl, hbk⟩ := hrel
              by_cases hkl : k < (ocsZ t p t.length).length
              · obtain ⟨b, o, rfl, lb, hcl⟩ := hro3 (by omega)
                have k1 := (hbk.cell (p := ⟨b, o + k, none⟩) lb).trans (hcl k hkl)
                have h0i : (0 : Int) ≤ (k : Int) := by omega
                have h0j : (k : Int) < ((ocsZ t p t.length).length : Int) := by omega
                have HE := Lib.hid (HEA.out k hkl).1
                clear hcl
                go_wp2_with fail
                refine (impl_Occ A1 A2 c1 c2 t p _ wr (hrd.below (hb3.trans (hbk.mono hb3.size)) rfl) (hrp3.below hbk rfl) (by omega) (by omega)).mono ?_
                rintro e v4 ⟨rfl, hv4⟩
                rw [HE.out]
                have hbk2 := hbk.trans (hv4.mono hbk.size)
                clear hv4 hbk
                go_wp2
                go_roundw
                case rel => exact ⟨k + 1, by omega, by go_num, hbk2⟩
                case measure => simp [intOf]; omega
              · have h0j : ¬ (k : Int) < ((ocsZ t p t.length).length : Int) := by omega
                have hb4 := hb3.trans (hbk.mono hb3.size)
                have hrp4 := hrp3.below hbk rfl
                have hro4 := hro3.below hbk rfl
                clear hb3 hrp3 hro3 hbk
                go_wp2_with fail
                refine (spec_Higher A2 c2 p 1 wr hrp4 (by omega) hA2).mono ?_
                rintro e v5 ⟨A5, c5, rfl, _, _, _, _, hrq, hv5⟩
                have hb5 := hb4.trans (hv5.mono hb4.size)
                have hro5 := hro4.below hv5 rfl
                have HHL := Lib.hid (higR_len p 1)
                clear hv5 hb4 hrp4 hro4
                cases hz : higB p 1
                · clear hz
                  obtain ⟨V, hV⟩ : ∃ V, V = v5 := ⟨_, rfl⟩
                  subst hV
                  have HBV := Lib.hid hb5
                  clear hb5 hrq hro5
                  go_wp2_with fail
                  refine (impl_PartOf A1 c1 t 0 ((t.length : Int) + 1) V (hrd.below HBV.out rfl) hlc HCM.out (by omega) hA1 (rng_mk (by omega) (by omega)) (rng_mk (by omega) (by omega))).mono ?_
                  rintro e v1 ⟨A9, c9, rfl, _, _, _, _, _, hv1⟩
                  rw [HPN.out]
                  have hB1 := HBV.out.trans (hv1.mono HBV.out.size)
                  clear hv1
                  go_wp2_with fail
                  refine (impl_Mot A1 c1 t 40 v1 (hrd.below hB1 rfl) hlc HCM.out (by omega)).mono ?_
                  rintro e v2 ⟨rfl, hv2⟩
                  rw [HM40.out]
                  have hB2 := hB1.trans (hv2.mono hB1.size)
                  clear hv2 hB1
                  have hne40 : ((t.length : Int) == 40) = false := beq_eq_false_iff_ne.2 (by omega)
                  go_wp2_with fail
                  refine (btoi_any _ v2).mono ?_
                  rintro e vz ⟨rfl, rfl⟩
                  go_wp2_with fail
                  refine (impl_Rep _ 4 fourL _ (rd_four _ _) (by decide) (by decide) (by decide)).mono ?_
                  rintro e v3 ⟨rfl, hv3⟩
                  rw [four_rep]
                  have hB3 := Lib.hid (HB0.out.trans (((hB2.alloc hB2.size _).trans (hv3.mono (hB2.alloc hB2.size _).size)).mono HB0.out.size))
                  clear hv3 hB2
                  go_wp2
                  go_ret
                  exact ⟨rfl, hB3.out⟩
                · have HOQ := Lib.hid (show ocsZ t (higR p 1) t.length = ocsZ t p t.length by unfold higR; rw [hz, if_pos rfl]; exact ocs_hig HPT.out hz t.length)
                  clear hz
                  go_wp2_with fail
                  refine (impl_Occs A1 A5 c1 c5 t (higR p 1) v5 (hrd.below hb5 rfl) hrq (by omega) (by rw [HHL.out]; omega)).mono ?_
                  rintro e v6 ⟨A6, c6, rfl, _, _, _, _, hro6, hv6⟩
                  rw [HOQ.out] at *
                  have hb6 := hb5.trans (hv6.mono hb5.size)
                  have hro6b := hro5.below hv6 rfl
                  clear hv6 hb5 hrq hro5
                  have HSM := Lib.hid (show smL (ocsZ t p t.length) (ocsZ t p t.length) = true from sl_all rfl fun _ _ => rfl)
                  go_wp2_with fail
                  refine (sameL_any A6 A3 c6 c3 (ocsZ t p t.length) (ocsZ t p t.length) v6 hro6 hro6b (by omega) (by omega)).mono ?_
                  rintro e v7 ⟨rfl, hv7⟩
                  rw [HSM.out]
                  have hb7 := hb6.trans (hv7.mono hb6.size)
                  clear hv7 hb6
                  obtain ⟨V, hV⟩ : ∃ V, V = v7 := ⟨_, rfl⟩
                  subst hV
                  have HBV := Lib.hid hb7
                  clear hb7 hro6 hro6b
                  go_wp2_with fail
                  refine (impl_PartOf A1 c1 t 0 ((t.length : Int) + 1) V (hrd.below HBV.out rfl) hlc HCM.out (by omega) hA1 (rng_mk (by omega) (by omega)) (rng_mk (by omega) (by omega))).mono ?_
                  rintro e v1 ⟨A9, c9, rfl, _, _, _, _, _, hv1⟩
                  rw [HPN.out]
                  have hB1 := HBV.out.trans (hv1.mono HBV.out.size)
                  clear hv1
                  go_wp2_with fail
                  refine (impl_Mot A1 c1 t 40 v1 (hrd.below hB1 rfl) hlc HCM.out (by omega)).mono ?_
                  rintro e v2 ⟨rfl, hv2⟩
                  rw [HM40.out]
                  have hB2 := hB1.trans (hv2.mono hB1.size)
                  clear hv2 hB1
                  have hne40 : ((t.length : Int) == 40) = false := beq_eq_false_iff_ne.2 (by omega)
                  go_wp2_with fail
                  refine (btoi_any _ v2).mono ?_
                  rintro e vz ⟨rfl, rfl⟩
                  go_wp2_with fail
                  refine (impl_Rep _ 4 fourL _ (rd_four _ _) (by decide) (by decide) (by decide)).mono ?_
                  rintro e v3 ⟨rfl, hv3⟩
                  rw [four_rep]
                  have hB3 := Lib.hid (HB0.out.trans (((hB2.alloc hB2.size _).trans (hv3.mono (hB2.alloc hB2.size _).size)).mono HB0.out.size))
                  clear hv3 hB2
                  go_wp2
                  go_ret
                  exact ⟨rfl, hB3.out⟩
      · have hj1 : ¬ ((1 : Int) < (t.length : Int)) := by omega
        clear hrk1 hrk2
        go_wp2
        go_loopw [6] (fun i wr => ∃ m : Nat, 1 ≤ m ∧ m ≤ t.length + 1 ∧ i = .int .i64 m ∧ Below w1.heap.size w1 wr) (fun i _ => t.length + 1 - (intOf i).toNat)
        case atStart => exact ⟨1, by omega, by omega, rfl, hb2⟩
        case round =>
          obtain ⟨m, hm1, hm2, rfl, hb⟩ := hrel
          by_cases hlt : m ≤ t.length
          · have hlt' : (m : Int) ≤ (t.length : Int) := by omega
            obtain ⟨C, hC, hC1, hC2, hC3⟩ := HML.out m hm1 hlt
            have HC := Lib.hid hC
            have g1 : ¬ C < 1 := by omega
            have g2 : ¬ (t.length : Int) - (m : Int) + 1 < C := by omega
            have gw1 : wrap64 ((t.length : Int) - (m : Int)) = (t.length : Int) - (m : Int) := by unfold wrap64; omega
            have gw2 : wrap64 ((t.length : Int) - (m : Int) + 1) = (t.length : Int) - (m : Int) + 1 := by unfold wrap64; omega
            by_cases hq : (m : Int) ≤ R
            · exact absurd hq (by omega)
            · have g3 : decide (C < (t.length : Int) - (m : Int) + 1) = false := decide_eq_false fun h => hq (hC3.1 h)
              have g4 : decide (C ≤ (t.length : Int) - (m : Int)) = false := decide_eq_false fun h => hq (hC3.1 (by omega))
              clear hC hC3
              go_wp2_with fail
              refine (impl_Mot A1 c1 t m wr (hrd.below hb rfl) hlc HCM.out (by omega)).mono ?_
              rintro e v1 ⟨rfl, hv1⟩
              rw [HC.out]
              have hbb := hb.trans (hv1.mono hb.size)
              clear hv1 hb
              go_wp2
              go_roundw
              case rel => exact ⟨m + 1, by omega, by omega, by go_num, hbb⟩
              case measure => simp [intOf]; omega
          · have hlt' : ¬ (m : Int) ≤ (t.length : Int) := by omega
            clear hlt hm1 hm2
            go_wp2_with fail
            refine (at_any A n c wr 0 _ hn (hr1.below hb rfl) (by omega)).mono ?_
            rintro e vz ⟨x0, hx00, hx01, rfl, rfl⟩
            have hz1 : ¬ (t.length : Int) = 0 := by omega
            have hz2 : ¬ (t.length : Int) = -1 := by omega
            have hz3 : x0.tmod (t.length : Int) = x0 % (t.length : Int) := Int.tmod_eq_emod_of_nonneg hx00
            have hz4 := Int.emod_nonneg x0 hz1
            have hz5 := Int.emod_lt_of_pos x0 hi0
            go_wp2_with fail
            obtain ⟨f, hf⟩ : ∃ f : Nat, (f : Int) = x0 % (t.length : Int) := ⟨(x0 % (t.length : Int)).toNat, by omega⟩
            rw [← hf]
            rw [← hf] at hz4 hz5
            clear hf hz3 hz1 hz2
            refine (at_any A n c wr 1 _ hn (hr1.below hb rfl) (by omega)).mono ?_
            rintro e vz ⟨x1, hx10, hx11, rfl, rfl⟩
            have hy0 : wrap64 ((t.length : Int) - (f : Int)) = (t.length : Int) - (f : Int) := by unfold wrap64; omega
            have hy1 : ¬ (t.length : Int) - (f : Int) = 0 := by omega
            have hy2 : ¬ (t.length : Int) - (f : Int) = -1 := by omega
            have hy3 : x1.tmod ((t.length : Int) - (f : Int)) = x1 % ((t.length : Int) - (f : Int)) := Int.tmod_eq_emod_of_nonneg hx10
            have hy4 := Int.emod_nonneg x1 hy1
            have hy5 := Int.emod_lt_of_pos x1 (show 0 < (t.length : Int) - (f : Int) by omega)
            have hw3 : wrap64 (1 + x1 % ((t.length : Int) - (f : Int))) = 1 + x1 % ((t.length : Int) - (f : Int)) := by unfold wrap64; omega
            go_wp2_with fail
            obtain ⟨m', hqq⟩ : ∃ m' : Nat, (m' : Int) = 1 + x1 % ((t.length : Int) - (f : Int)) := ⟨(1 + x1 % ((t.length : Int) - (f : Int))).toNat, by omega⟩
            rw [← hqq]
            have hm'1 : 1 ≤ m' := by omega
            have hfm : f + m' ≤ t.length := by omega
            have HPL := Lib.hid (par_law HB.out (f := f) (m := m') hm'1 hfm)
            clear hqq hw3 hy0 hy1 hy2 hy3 hy4 hy5 hx00 hx01 hx10 hx11
            refine (impl_PartOf A1 c1 t f (m' : Int) wr (hrd.below hb rfl) hlc HCM.out (by omega) hA1 (rng_mk (by omega) (by omega)) (rng_mk (by omega) (by omega))).mono ?_
            rintro e v1 ⟨A2, c2, rfl, _, _, _, hA2, hrp, hv1⟩
            rw [HPL.out.1]
            rw [HPL.out.2.1] at hrp ⊢
            obtain ⟨p, hp⟩ : ∃ p, p = subL t f m' := ⟨_, rfl⟩
            have hpl : p.length = m' := by rw [hp]; exact HPL.out.2.2.1
            have HPT := Lib.hid (show tuneB p = true by rw [hp]; exact HPL.out.2.2.2.1)
            have hoc : occB t p (f : Int) = true := by rw [hp]; exact HPL.out.2.2.2.2
            have HOC := Lib.hid hoc
            have HHS := Lib.hid (ocs_has hoc (by omega))
            have HEA := Lib.hid (fun k h => ocs_each (t := t) (m := p) (k := k) h)
            rw [← hp] at hrp ⊢
            have hq1 : ((p.length : Int) != (m' : Int)) = false := by rw [hpl]; simp
            have hp40 : p.length ≤ 40 := by omega
            have hb1' := hb.trans (hv1.mono hb.size)
            have hrt := hrd.below hb1' rfl
            have HPLN := Lib.hid hpl
            clear hp hpl hoc hv1 hb HPL
            go_wp2_with fail
            refine (impl_Occs A1 A2 c1 c2 t p v1 hrt hrp (by omega) (by omega)).mono ?_
            rintro e v2 ⟨A3, c3, rfl, _, _, _, _, hro, hv2⟩
            have hb2' := hb1'.trans (hv2.mono hb1'.size)
            have hrp2 := hrp.below hv2 rfl
            have hol := ocsZ_len t p t.length
            clear hv2 hb1' hrt hrp
            go_wp2_with fail
            refine (has_any A3 c3 (ocsZ t p t.length) f v2 hro (by omega)).mono ?_
            rintro e vz ⟨rfl, rfl⟩
            rw [HHS.out]
            go_wp2_with fail
            refine (impl_Occ A1 A2 c1 c2 t p f v2 (hrd.below hb2' rfl) hrp2 (by omega) (by omega)).mono ?_
            rintro e v3 ⟨rfl, hv3⟩
            rw [HOC.out]
            have hb3 := hb2'.trans (hv3.mono hb2'.size)
            have hrp3 := hrp2.below hv3 rfl
            have hro3 := hro.below hv3 rfl
            clear hv3 hb2' hrp2 hro
            go_wp2
            go_loopw [13] (fun i wr => ∃ k : Nat, k ≤ (ocsZ t p t.length).length ∧ i = .int .i64 k ∧ Below v3.heap.size v3 wr) (fun i _ => (ocsZ t p t.length).length - (intOf i).toNat)
            case atStart => exact ⟨0, by omega, rfl, Below.refl _ _⟩
            case round =>
              obtain ⟨k, hk, rfl, hbk⟩ := hrel
              by_cases hkl : k < (ocsZ t p t.length).length
              · obtain ⟨b, o, rfl, lb, hcl⟩ := hro3 (by omega)
                have k1 := (hbk.cell (p := ⟨b, o + k, none⟩) lb).trans (hcl k hkl)
                have h0i : (0 : Int) ≤ (k : Int) := by omega
                have h0j : (k : Int) < ((ocsZ t p t.length).length : Int) := by omega
                have HE := Lib.hid (HEA.out k hkl).1
                clear hcl
                go_wp2_with fail
                refine (impl_Occ A1 A2 c1 c2 t p _ wr (hrd.below (hb3.trans (hbk.mono hb3.size)) rfl) (hrp3.below hbk rfl) (by omega) (by omega)).mono ?_
                rintro e v4 ⟨rfl, hv4⟩
                rw [HE.out]
                have hbk2 := hbk.trans (hv4.mono hbk.size)
                clear hv4 hbk
                go_wp2
                go_roundw
                case rel => exact ⟨k + 1, by omega, by go_num, hbk2⟩
                case measure => simp [intOf]; omega
              · have h0j : ¬ (k : Int) < ((ocsZ t p t.length).length : Int) := by omega
                have hb4 := hb3.trans (hbk.mono hb3.size)
                have hrp4 := hrp3.below hbk rfl
                have hro4 := hro3.below hbk rfl
                clear hb3 hrp3 hro3 hbk
                go_wp2_with fail
                refine (spec_Higher A2 c2 p 1 wr hrp4 (by omega) hA2).mono ?_
                rintro e v5 ⟨A5, c5, rfl, _, _, _, _, hrq, hv5⟩
                have hb5 := hb4.trans (hv5.mono hb4.size)
                have hro5 := hro4.below hv5 rfl
                have HHL := Lib.hid (higR_len p 1)
                clear hv5 hb4 hrp4 hro4
                cases hz : higB p 1
                · clear hz
                  obtain ⟨V, hV⟩ : ∃ V, V = v5 := ⟨_, rfl⟩
                  subst hV
                  have HBV := Lib.hid hb5
                  clear hb5 hrq hro5
                  go_wp2_with fail
                  refine (impl_PartOf A1 c1 t 0 ((t.length : Int) + 1) V (hrd.below HBV.out rfl) hlc HCM.out (by omega) hA1 (rng_mk (by omega) (by omega)) (rng_mk (by omega) (by omega))).mono ?_
                  rintro e v1 ⟨A9, c9, rfl, _, _, _, _, _, hv1⟩
                  rw [HPN.out]
                  have hB1 := HBV.out.trans (hv1.mono HBV.out.size)
                  clear hv1
                  go_wp2_with fail
                  refine (impl_Mot A1 c1 t 40 v1 (hrd.below hB1 rfl) hlc HCM.out (by omega)).mono ?_
                  rintro e v2 ⟨rfl, hv2⟩
                  rw [HM40.out]
                  have hB2 := hB1.trans (hv2.mono hB1.size)
                  clear hv2 hB1
                  have hne40 : ((t.length : Int) == 40) = false := beq_eq_false_iff_ne.2 (by omega)
                  go_wp2_with fail
                  refine (btoi_any _ v2).mono ?_
                  rintro e vz ⟨rfl, rfl⟩
                  go_wp2_with fail
                  refine (impl_Rep _ 4 fourL _ (rd_four _ _) (by decide) (by decide) (by decide)).mono ?_
                  rintro e v3 ⟨rfl, hv3⟩
                  rw [four_rep]
                  have hB3 := Lib.hid (HB0.out.trans (((hB2.alloc hB2.size _).trans (hv3.mono (hB2.alloc hB2.size _).size)).mono HB0.out.size))
                  clear hv3 hB2
                  go_wp2
                  go_ret
                  exact ⟨rfl, hB3.out⟩
                · have HOQ := Lib.hid (show ocsZ t (higR p 1) t.length = ocsZ t p t.length by unfold higR; rw [hz, if_pos rfl]; exact ocs_hig HPT.out hz t.length)
                  clear hz
                  go_wp2_with fail
                  refine (impl_Occs A1 A5 c1 c5 t (higR p 1) v5 (hrd.below hb5 rfl) hrq (by omega) (by rw [HHL.out]; omega)).mono ?_
                  rintro e v6 ⟨A6, c6, rfl, _, _, _, _, hro6, hv6⟩
                  rw [HOQ.out] at *
                  have hb6 := hb5.trans (hv6.mono hb5.size)
                  have hro6b := hro5.below hv6 rfl
                  clear hv6 hb5 hrq hro5
                  have HSM := Lib.hid (show smL (ocsZ t p t.length) (ocsZ t p t.length) = true from sl_all rfl fun _ _ => rfl)
                  go_wp2_with fail
                  refine (sameL_any A6 A3 c6 c3 (ocsZ t p t.length) (ocsZ t p t.length) v6 hro6 hro6b (by omega) (by omega)).mono ?_
                  rintro e v7 ⟨rfl, hv7⟩
                  rw [HSM.out]
                  have hb7 := hb6.trans (hv7.mono hb6.size)
                  clear hv7 hb6
                  obtain ⟨V, hV⟩ : ∃ V, V = v7 := ⟨_, rfl⟩
                  subst hV
                  have HBV := Lib.hid hb7
                  clear hb7 hro6 hro6b
                  go_wp2_with fail
                  refine (impl_PartOf A1 c1 t 0 ((t.length : Int) + 1) V (hrd.below HBV.out rfl) hlc HCM.out (by omega) hA1 (rng_mk (by omega) (by omega)) (rng_mk (by omega) (by omega))).mono ?_
                  rintro e v1 ⟨A9, c9, rfl, _, _, _, _, _, hv1⟩
                  rw [HPN.out]
                  have hB1 := HBV.out.trans (hv1.mono HBV.out.size)
                  clear hv1
                  go_wp2_with fail
                  refine (impl_Mot A1 c1 t 40 v1 (hrd.below hB1 rfl) hlc HCM.out (by omega)).mono ?_
                  rintro e v2 ⟨rfl, hv2⟩
                  rw [HM40.out]
                  have hB2 := hB1.trans (hv2.mono hB1.size)
                  clear hv2 hB1
                  have hne40 : ((t.length : Int) == 40) = false := beq_eq_false_iff_ne.2 (by omega)
                  go_wp2_with fail
                  refine (btoi_any _ v2).mono ?_
                  rintro e vz ⟨rfl, rfl⟩
                  go_wp2_with fail
                  refine (impl_Rep _ 4 fourL _ (rd_four _ _) (by decide) (by decide) (by decide)).mono ?_
                  rintro e v3 ⟨rfl, hv3⟩
                  rw [four_rep]
                  have hB3 := Lib.hid (HB0.out.trans (((hB2.alloc hB2.size _).trans (hv3.mono (hB2.alloc hB2.size _).size)).mono HB0.out.size))
                  clear hv3 hB2
                  go_wp2
                  go_ret
                  exact ⟨rfl, hB3.out⟩
    · have hi0 : ¬ ((0 : Int) < (t.length : Int)) := by omega
      have hj1 : ¬ ((1 : Int) < (t.length : Int)) := by omega
      clear hrk1 hrk2
      go_wp2
      go_loopw [6] (fun i wr => i = .int .i64 1 ∧ Below w1.heap.size w1 wr) (fun i _ => 0)
      case atStart => exact ⟨rfl, hb2⟩
      case round =>
        obtain ⟨rfl, hbV⟩ := hrel
        have hlt' : ¬ ((1 : Int) ≤ (t.length : Int)) := by omega
        obtain ⟨V, hV⟩ : ∃ V, V = wr := ⟨_, rfl⟩
        subst hV
        have HBV := Lib.hid hbV
        clear hbV
        go_wp2_with fail
        refine (impl_PartOf A1 c1 t 0 ((t.length : Int) + 1) V (hrd.below HBV.out rfl) hlc HCM.out (by omega) hA1 (rng_mk (by omega) (by omega)) (rng_mk (by omega) (by omega))).mono ?_
        rintro e v1 ⟨A9, c9, rfl, _, _, _, _, _, hv1⟩
        rw [HPN.out]
        have hB1 := HBV.out.trans (hv1.mono HBV.out.size)
        clear hv1
        go_wp2_with fail
        refine (impl_Mot A1 c1 t 40 v1 (hrd.below hB1 rfl) hlc HCM.out (by omega)).mono ?_
        rintro e v2 ⟨rfl, hv2⟩
        rw [HM40.out]
        have hB2 := hB1.trans (hv2.mono hB1.size)
        clear hv2 hB1
        have hne40 : ((t.length : Int) == 40) = false := beq_eq_false_iff_ne.2 (by omega)
        go_wp2_with fail
        refine (btoi_any _ v2).mono ?_
        rintro e vz ⟨rfl, rfl⟩
        go_wp2_with fail
        refine (impl_Rep _ 4 fourL _ (rd_four _ _) (by decide) (by decide) (by decide)).mono ?_
        rintro e v3 ⟨rfl, hv3⟩
        rw [four_rep]
        have hB3 := Lib.hid (HB0.out.trans (((hB2.alloc hB2.size _).trans (hv3.mono (hB2.alloc hB2.size _).size)).mono HB0.out.size))
        clear hv3 hB2
        go_wp2
        go_ret
        exact ⟨rfl, hB3.out⟩
  · go_enter Try.func3, Try.ntmps3
    go_wp2_with fail
    refine (big_yes A n c w hn).mono ?_
    rintro e wz ⟨rfl, rfl⟩
    go_wp2
    go_ret
    exact ⟨rfl, Below.refl _ _⟩
end Go.Proofs.Ytjfaodbjmanfnaa
