/- The walk of FnContours. -/
import Derived.Test.YtkbceojeahninaaDCtr
import Derived.Test.YtkbceojeahninaaSamL
import Derived.Test.YtkbceojeahninaaArgB
import Derived.Deep.Cut
import Derived.Outline
namespace Go.Proofs.Ytkbceojeahninaa
open Go.ChangeShapes Go.WideShapes Go.ChangeAt Go.RowKit
set_option linter.unusedVariables false
theorem rd_zero1 (w : World) (e : TypeId) : RdI (w.alloc (.cells #[.int .i64 0] e)) (some ⟨w.heap.size, 0, none⟩) [0] := by
  intro _
  refine ⟨w.heap.size, 0, rfl, by simp, fun j hj => ?_⟩
  have hj4 : j < 1 := hj
  match j, hj4 with
  | 0, _ => simp [go_sem, gt]
theorem zero_same : smL [0] [0] = true := decide_eq_true rfl
theorem rd_tune1 {w : World} {A : Option Addr} {c : Nat} {t : List (Int × Int)} (e : TypeId) (hr : RdN w A t) (h1 : t.length ≤ c) (h2 : c ≤ maxLen) : RdNS (w.alloc (.cells #[.slice A t.length c] e)) (some ⟨w.heap.size, 0, none⟩) [t] := by
  intro _
  refine ⟨w.heap.size, 0, rfl, by simp, fun j hj => ?_⟩
  have hj4 : j < 1 := hj
  match j, hj4 with
  | 0, _ => exact ⟨A, c, by simp [go_sem, nt], h1, h2, hr.below ((Below.refl _ _).alloc (Nat.le_refl _) _) rfl⟩
theorem tune1_len {t : List (Int × Int)} (h : t.length ≤ 1000000000) : ∀ k, k < [t].length → (nt [t] k).length ≤ 1000000000 := by
  intro k hk
  have hk3 : k < 1 := hk
  match k, hk3 with
  | 0, _ => exact h
/-- All that the walk asks of a drawn contour. -/
theorem ctr_all {s : ByteArray} (h : drC s) : ∃ (t R : List (Int × Int)) (r : ByteArray) (U : Int), froL s 30 = t ∧ froQ s 30 = true ∧ turnZ s = r ∧ tuneB t = true ∧ t.length = s.size + 1 ∧ conB t = s ∧ bacL t = R ∧ R.length = s.size + 1 ∧ conB R = r ∧ turnZ r = s ∧
    r.size ≤ 8 ∧ (decide (s.size ≤ 39) && cok s) = true ∧ ups s = U ∧ ups r = -U ∧ pt t s.size = U + 30 ∧ -8 ≤ U ∧ U ≤ 8 ∧ fndL [t] s = [0] := by
  obtain ⟨e1, e2⟩ := ctr_from h
  have hn := h.2
  have hp := pch_rng s 30 s.size
  have hu := ctr_ups h
  refine ⟨frm s 30 (s.size + 1), revT s, turnZ s, ups s, e1, e2, rfl, ctr_tune h, frm_len _ _ _, ctr_con h, ctr_back h, revT_len s, rev_con h, turn_turn h, (turn_dr h).2, drC_okC h, rfl, ctr_ups2 h, ?_, by omega, by omega, fnd_own h⟩
  rw [frm_pt (show s.size < s.size + 1 by omega)]; omega
theorem ux_no : (decide ((⟨#[85, 88]⟩ : ByteArray).size ≤ 39) && cok ⟨#[85, 88]⟩) = false := by decide
attribute [local irreducible] tm pt gt nt tuneB froL froQ turnZ conB bacL ups fndL cok areB hasC in
set_option maxHeartbeats 12800000 in
set_option maxRecDepth 100000 in
theorem walk_FnContours (A : Option Addr) (c : Nat) (l0 : List Int) (m0 : Int) (w : World) (hm0 : w.cell? ⟨0, 0, none⟩ = some (.int .i64 m0)) (w0 : l0.length ≤ c ∧ c ≤ maxLen ∧ RdU w A l0.length w.heap.size ∧ True) :
    Calls Try.prog 5 #[.slice A l0.length c] w fun e w' => e = .returned (.bool true) ∧ Below w.heap.size w w' := by
  obtain ⟨_, _, hr, _⟩ := w0
  generalize l0.length = n at *
  have h00 : 0 < w.heap.size := World.block_lt_of_cell? w ⟨0, 0, none⟩ hm0
  by_cases hn : n ≤ 1048576
  · go_enter Try.func5, Try.ntmps5
    go_wp2_with fail
    refine (big_no A n c w hn).mono ?_
    rintro e wz ⟨rfl, rfl⟩
    go_wp2_with fail
    refine (draw_ctr w A n c hn hr).mono ?_
    rintro e w1 ⟨s, hs, rfl, hb1⟩
    have hs8 := hs.2
    have HS := Lib.hid hs
    obtain ⟨t, R, r, U, q1, q2, q3, q4, q5, q6, q7, q8, q9, q10, q11, q12, q13, q14, q15, q16, q17, q18⟩ := ctr_all hs
    have hr1 := hr.below hb1 rfl
    have hm1 := (hb1.cell (p := ⟨0, 0, none⟩) h00).trans hm0
    have h01 : 0 < w1.heap.size := Nat.lt_of_lt_of_le h00 hb1.size
    have HB0 := Lib.hid hb1
    have Q1 := Lib.hid q1
    have Q2 := Lib.hid q2
    have Q3 := Lib.hid q3
    have Q4 := Lib.hid q4
    have Q5 := Lib.hid q5
    have Q6 := Lib.hid q6
    have Q7 := Lib.hid q7
    have Q8 := Lib.hid q8
    have Q9 := Lib.hid q9
    have Q10 := Lib.hid q10
    have Q12 := Lib.hid q12
    have Q13 := Lib.hid q13
    have Q14 := Lib.hid q14
    have Q15 := Lib.hid q15
    have Q18 := Lib.hid q18
    have htl : t.length ≤ 9 := by omega
    have hRl : R.length ≤ 9 := by omega
    have hsm : s.size ≤ maxLen := by unfold maxLen; omega
    have hrm : r.size ≤ maxLen := by unfold maxLen; omega
    have n1 : ((t.length : Int) != (s.size : Int) + 1) = false := by rw [q5]; simp
    clear hr hs hb1 q1 q2 q3 q4 q5 q6 q7 q8 q9 q10 q12 q13 q14 q15 q18 hm0
    go_wp2_with fail
    refine (impl_From s 30 w1 hsm).mono ?_
    rintro e w2 ⟨A4, c4, rfl, _, hlc, hcm, _, hrt, hb2⟩
    rw [Q1.out] at hlc hrt
    rw [Q1.out, Q2.out]
    go_wp2_with fail
    refine (impl_TurnC s w2 hsm).mono ?_
    rintro e w3 ⟨rfl, hv⟩
    rw [Q3.out]
    have hb3 := hb2.trans (hv.mono hb2.size)
    have hrt3 := hrt.below hv rfl
    clear hv hb2 hrt
    go_wp2_with fail
    refine (impl_ContourOf A4 c4 t w3 hrt3 (by omega)).mono ?_
    rintro e w4 ⟨rfl, hv⟩
    rw [Q6.out]
    have hb4 := hb3.trans (hv.mono hb3.size)
    have hrt4 := hrt3.below hv rfl
    clear hv hb3 hrt3
    go_wp2_with fail
    refine (spec_Back A4 c4 t w4 hrt4 Q4.out).mono ?_
    rintro e w5 ⟨A5, c5, rfl, _, _, _, _, hrR, hv⟩
    rw [Q7.out] at hrR ⊢
    have hb5 := hb4.trans (hv.mono hb4.size)
    have hrt5 := hrt4.below hv rfl
    clear hv hb4 hrt4
    go_wp2_with fail
    refine (impl_ContourOf A5 c5 R w5 hrR (by omega)).mono ?_
    rintro e w6 ⟨rfl, hv⟩
    rw [Q9.out]
    have hb6 := hb5.trans (hv.mono hb5.size)
    have hrt6 := hrt5.below hv rfl
    clear hv hb5 hrt5 hrR
    go_wp2_with fail
    refine (impl_TurnC r w6 hrm).mono ?_
    rintro e w7 ⟨rfl, hv⟩
    rw [Q10.out]
    have hb7 := hb6.trans (hv.mono hb6.size)
    have hrt7 := hrt6.below hv rfl
    clear hv hb6 hrt6
    go_wp2_with fail
    refine (impl_ContourOk s w7 hsm).mono ?_
    rintro e wz ⟨rfl, rfl⟩
    rw [Q12.out]
    go_wp2_with fail
    refine (impl_CountUps s w7 hsm).mono ?_
    rintro e wz ⟨rfl, rfl⟩
    rw [Q13.out]
    have hr7 := hr1.below hb7 rfl
    go_wp2_with fail
    refine (draw_tunes w7 A n c hn (fun h0 => by obtain ⟨b, o, e, hb, hc⟩ := hr7 h0; exact ⟨b, o, e, Nat.lt_of_lt_of_le hb (Nat.le_trans HB0.out.size hb7.size), hc⟩)).mono ?_
    rintro e w8 ⟨ls, A8, c8, hls, rfl, hl8, hc8, hrl, hv⟩
    have hb8 := hb7.trans (hv.mono hb7.size)
    have hrt8 := hrt7.below hv rfl
    have HLS := Lib.hid hls
    have hl4 := hls.1
    have HNL := Lib.hid (fun k (hk : k < ls.length) => (show (nt ls k).length ≤ 1000000000 by have := (hls.2 k hk).2; omega))
    have hm8 := (hb8.cell (p := ⟨0, 0, none⟩) h01).trans hm1
    have hF1 := fndL_len ls s
    have hF2 := fndL_len ls ⟨#[]⟩
    clear hv hb7 hrt7 hr7 hls hr1
    go_wp2_with fail
    refine (impl_Find A8 c8 ls s m0 w8 hm8 hrl (by omega) HNL.out hsm).mono ?_
    rintro e w9 ⟨A9, c9, rfl, _, _, _, _, hrf, hv⟩
    have hb9 := hb8.trans (hv.mono hb8.size)
    have hrt9 := hrt8.below hv rfl
    have hrl9 := hrl.below hv rfl
    have hm9 := (hb9.cell (p := ⟨0, 0, none⟩) h01).trans hm1
    clear hv hb8 hrt8 hrl hm8
    go_wp2_with fail
    refine (impl_Find A8 c8 ls ⟨#[]⟩ m0 w9 hm9 hrl9 (by omega) HNL.out (by decide)).mono ?_
    rintro e w10 ⟨Aa, ca, rfl, _, _, _, _, _, hv⟩
    have hb10 := hb9.trans (hv.mono hb9.size)
    have hrt10 := hrt9.below hv rfl
    have hrl10 := hrl9.below hv rfl
    have hrf10 := hrf.below hv rfl
    have n3 : (((fndL ls ⟨#[]⟩).length : Int) == (ls.length : Int)) = true := beq_iff_eq.2 (by have h9 : (fndL ls ⟨#[]⟩).length = ls.length := fnd_nil HLS.out; omega)
    have HAT := Lib.hid (fun k hk => fnd_at HLS.out HS.out (k := k) hk)
    clear hv hb9 hrt9 hrl9 hm9 hrf hF2
    go_wp2
    go_loopw [11] (fun i wr => ∃ k : Nat, k ≤ (fndL ls s).length ∧ i = .int .i64 k ∧ Below w10.heap.size w10 wr) (fun i _ => (fndL ls s).length - (intOf i).toNat)
    case atStart => exact ⟨0, by omega, rfl, Below.refl _ _⟩
    case round =>
      obtain ⟨k, hk, rfl, hbk⟩ := hrel
      by_cases hkl : k < (fndL ls s).length
      · obtain ⟨fb, fo, rfl, fll, hcf⟩ := hrf10 (by omega)
        have k1 := (hbk.cell (p := ⟨fb, fo + k, none⟩) fll).trans (hcf k hkl)
        have h0i : (0 : Int) ≤ (k : Int) := by omega
        have h0j : (k : Int) < ((fndL ls s).length : Int) := by omega
        obtain ⟨j, hj, hgj, hsz⟩ := HAT.out k hkl
        rw [hgj] at k1
        obtain ⟨lb, lo, rfl, lll, hcl⟩ := hrl10 (by omega)
        obtain ⟨Aj, cj, p1, p2, p3, p4⟩ := hcl j hj
        have k2 := (hbk.cell (p := ⟨lb, lo + j, none⟩) lll).trans p1
        have h0a : (0 : Int) ≤ (j : Int) := by omega
        have h0b : (j : Int) < (ls.length : Int) := by omega
        have h0c : ¬ (j : Int) < 0 := by omega
        have h0d : ¬ (ls.length : Int) ≤ (j : Int) := by omega
        have hnl := HNL.out j hj
        have hz : ¬ ((conB (nt ls j)).size : Int) < (s.size : Int) := by omega
        have hrj := p4.below hbk rfl
        clear hcf hcl hgj hsz p1 p4
        go_wp2_with fail
        refine (impl_ContourOf Aj cj (nt ls j) wr hrj hnl).mono ?_
        rintro e v1 ⟨rfl, hv1⟩
        have hbk1 := hbk.trans (hv1.mono hbk.size)
        clear hv1 hbk hrj
        go_wp2
        go_roundw
        case rel => exact ⟨k + 1, by omega, by go_num, hbk1⟩
        case measure => simp [intOf]; omega
      · have h0j : ¬ (k : Int) < ((fndL ls s).length : Int) := by omega
        have hb11 := hb10.trans (hbk.mono hb10.size)
        have hrt11 := hrt10.below hbk rfl
        obtain ⟨tb, tof, rfl, tl, hct⟩ := hrt11 (by have := Q5.out; omega)
        have k1 := (hct s.size (by have := Q5.out; omega)).2
        rw [Q15.out] at k1
        have wq : wrap64 ((t.length : Int) - 1) = (s.size : Int) := by have := Q5.out; unfold wrap64; omega
        have wq2 : (t.length : Int) - 1 = (s.size : Int) := by have := Q5.out; omega
        have h0q : (0 : Int) ≤ (s.size : Int) := by omega
        have h1q : (s.size : Int) < (t.length : Int) := by have := Q5.out; omega
        have wu : wrap64 (U + 30 - 30) = U := by unfold wrap64; omega
        have wn : wrap64 (-U) = -U := by unfold wrap64; omega
        clear hb10 hrt10 hrl10 hrf10 hbk hk hkl hct
        go_wp2_with fail
        refine (impl_CountUps r wr hrm).mono ?_
        rintro e wz ⟨rfl, rfl⟩
        rw [Q14.out]
        have hmr := (hb11.cell (p := ⟨0, 0, none⟩) h01).trans hm1
        have h0r : 0 < wr.heap.size := Nat.lt_of_lt_of_le h01 hb11.size
        go_wp2_with fail
        refine (impl_Find _ 1 [t] s m0 _ ((((Below.refl wr.heap.size wr).alloc (Nat.le_refl _) _).cell (p := ⟨0, 0, none⟩) h0r).trans hmr) (rd_tune1 _ hrt11 hlc hcm) (by simp) (tune1_len (by omega)) hsm).mono ?_
        rintro e u1 ⟨B1, d1, rfl, _, _, _, _, hrp, hu1⟩
        rw [Q18.out] at hrp ⊢
        have hb12 := hb11.trans ((((Below.refl wr.heap.size wr).alloc (Nat.le_refl _) _).trans (hu1.mono (by simp))).mono hb11.size)
        clear hu1 hb11 hmr
        go_wp2_with fail
        refine (sameL_any _ _ _ 1 [0] [0] _ (hrp.below ((Below.refl _ _).alloc (Nat.le_refl _) _) rfl) (rd_zero1 _ _) (by decide) (by decide)).mono ?_
        rintro e u2 ⟨rfl, hu2⟩
        rw [zero_same]
        have hb13 := hb12.trans ((((Below.refl u1.heap.size u1).alloc (Nat.le_refl _) (.cells #[.int .i64 0] 3)).trans (hu2.mono (by simp))).mono hb12.size)
        clear hu2 hb12 hrp
        go_wp2_with fail
        refine (impl_ContourOk ⟨#[85, 88]⟩ _ (by decide)).mono ?_
        rintro e wz ⟨rfl, rfl⟩
        rw [ux_no]
        have hF := Lib.hid (HB0.out.trans (hb13.mono HB0.out.size))
        go_wp2
        go_ret
        exact ⟨rfl, hF.out⟩
  · go_enter Try.func5, Try.ntmps5
    go_wp2_with fail
    refine (big_yes A n c w hn).mono ?_
    rintro e wz ⟨rfl, rfl⟩
    go_wp2
    go_ret
    exact ⟨rfl, Below.refl _ _⟩
end Go.Proofs.Ytkbceojeahninaa
