/- The cost of a way over the pins of a cylinder: the reference. -/
import Derived.Test.YthgeijgojdmidaaWay
namespace Go.Proofs.Ythgeijgojdmidaa
open Go.ChangeShapes Go.WideShapes Go.ChangeAt Go.RowKit
set_option linter.unusedVariables false
attribute [local irreducible] tm pt gt gbo cylB prmB wayTo mvZ moveZ in
set_option maxHeartbeats 1600000 in
theorem spec_Way (s t : Int) (A B : Option Addr) (c d : Nat) (P : List (Int × Int)) (l : List Int) (w : World) (hrd : RdN w A P) (hro : RdI w B l) (hP : P.length ≤ 1000000000) (hl : l.length ≤ 1000000000) :
    Calls Try.prog 16 #[.agg #[.int .i64 s, .int .i64 t, .slice A P.length c], .slice B l.length d] w fun e w' => e = .returned (.int .i64 (wayZ s t P l)) ∧ Below w.heap.size w w' := by
  obtain ⟨W0, hW0⟩ : ∃ W, W = w.alloc (.cells #[.int .i64 s, .int .i64 t, .slice A P.length c] 30) := ⟨_, rfl⟩
  have hb0 : Below w.heap.size w W0 := by rw [hW0]; exact (Below.refl _ _).alloc (Nat.le_refl _) _
  have s0 : w.heap.size < W0.heap.size := by rw [hW0]; simp
  have a0 : W0.cell? ⟨w.heap.size, 0, none⟩ = some (.int .i64 s) := by rw [hW0]; simp [go_sem]
  have a1 : W0.cell? ⟨w.heap.size, 1, none⟩ = some (.int .i64 t) := by rw [hW0]; simp [go_sem]
  have a2 : W0.cell? ⟨w.heap.size, 2, none⟩ = some (.slice A P.length c) := by rw [hW0]; simp [go_sem]
  have hrd0 := hrd.below hb0 rfl
  have hro0 := hro.below hb0 rfl
  have HW0 := Lib.hid hW0
  clear hW0 hrd hro
  cases hC : cylB s t P
  · have HF := Lib.hid (way_no (s := s) (t := t) (P := P) (l := l) (by rw [hC]; simp))
    have HC := Lib.hid hC
    clear hC
    go_enter Try.func16, Try.ntmps16
    go_wp2_with fail
    rw [← HW0.out]
    refine (spec_CylOk _ _ _ _ _ _ hrd0 hP).mono ?_
    rintro e w1 ⟨rfl, hb1⟩
    rw [HC.out]
    go_wp2
    go_ret
    exact ⟨ret_int HF.out.symm, hb0.trans (hb1.mono (Nat.le_of_lt s0))⟩
  · have hP100 := cyl_len hC
    have HC := Lib.hid hC
    by_cases hln : l.length = P.length
    · have HNo := Lib.hid (fun (h : prmB l P.length = false) => way_no (s := s) (t := t) (P := P) (l := l) (by rw [h]; simp))
      have HYes := Lib.hid (fun (h : prmB l P.length = true) => way_yes hC h)
      have hll : l.length ≤ 100 := by omega
      have HB := Lib.hid (way_bd s P l)
      have HM := Lib.hid (mvZ_bd s P)
      have HX := Lib.hid (fun (m x y : Nat) hx hy => way_next (s := s) (P := P) (l := l) (m := m) (x := x) (y := y) hx hy)
      have H1 := Lib.hid (way_one s P l)
      have H0 := Lib.hid (way_zero s P l)
      have HLN := Lib.hid hln
      have HPY := Lib.hid (fun h => prm_yes hln h)
      have HPN := Lib.hid (fun (k : Nat) (hk : k < l.length) h => prm_no (n := P.length) hk h)
      have HZ := Lib.hid (seen_zero l l.length)
      have hq : ((l.length : Int) == (P.length : Int)) = true := by simp; omega
      have hq2 : ((l.length : Int) != (P.length : Int)) = false := by simp; omega
      have hq3 : decide ((l.length : Int) = (P.length : Int)) = true := by simp; omega
      have hq4 : decide (l.length = P.length) = true := by simp; omega
      have hl1 : l.length ≤ P.length := by omega
      have hl2 : P.length ≤ l.length := by omega
      clear hC hln
      go_enter Try.func16, Try.ntmps16
      go_wp2_with fail
      rw [← HW0.out]
      refine (spec_CylOk _ _ _ _ _ _ hrd0 hP).mono ?_
      rintro e w1 ⟨rfl, hb1⟩
      rw [HC.out]
      have e2 := (hb1.cell (p := ⟨w.heap.size, 2, none⟩) s0).trans a2
      have hs1 := hb1.size
      go_wp2_with (at_make; refine make_bools rfl _ _ 89 rfl 4 Try.underlying89 (by kernel_rfl) W0.heap.size l.length rfl rfl hl hs1 ?_; intro w2 hown hb2 hz2)
      have hb02 := hb1.trans hb2
      clear e2
      go_loopw [6, 7] (fun v i wr => ∃ (k : Nat) (L : List Bool), k ≤ l.length ∧ v = .int .i64 (wayTo s P l k) ∧ i = .int .i64 (k : Int) ∧ L.length = l.length ∧ seenL l k L ∧ prmTo l P.length k ∧ OwnT 4 W0.heap.size wr (.slice (some ⟨w1.heap.size, 0, none⟩) l.length l.length) L ∧ Below W0.heap.size W0 wr) (fun _ i _ => l.length - (intOf i).toNat)
      case atStart => exact ⟨0, _, by omega, by rw [H0.out], rfl, List.length_replicate, HZ.out, fun _ h => by omega, hown, hb02⟩
      case round =>
        clear hown hb02 hb2
        obtain ⟨k, L, hk, rfl, rfl, hL, hS, hPr, ho, hb⟩ := hrel
        have HL := Lib.hid hL
        have HS := Lib.hid hS
        have HP := Lib.hid hPr
        have hL1 : L.length ≤ l.length := by omega
        have hL2 : l.length ≤ L.length := by omega
        have hbs := hb.size
        have hbF := hb0.trans (hb.mono (Nat.le_of_lt s0))
        clear hL hS hPr
        by_cases hlt : k < l.length
        · obtain ⟨b2, o2, rfl, lb2, hc2⟩ := hro0 (by omega)
          have k1 := (hb.cell (p := ⟨b2, o2 + k, none⟩) lb2).trans (hc2 k hlt)
          by_cases hin : 0 ≤ gt l k ∧ gt l k ≤ (l.length : Int) - 1
          · obtain ⟨y, hy⟩ : ∃ y : Nat, gt l k = (y : Int) := ⟨(gt l k).toNat, by omega⟩
            have hyl : y < L.length := by omega
            have hyl2 : y < l.length := by omega
            have hyP : y < P.length := by omega
            obtain ⟨g, he, hgb, hgl, hcg, hfg⟩ := ho.head (by omega)
            injection he with he
            injection he with he
            subst he
            have k2 := hcg y hyl
            have f2 := hfg y
            rw [hy] at k1 hin
            have HY := Lib.hid hy
            have HIN := Lib.hid hin
            clear hcg hfg hy hin
            cases hs : gbo L y
            · have HA := Lib.hid (prm_succ HP.out (seen_no (n := P.length) HS.out hyl HY.out hyP hs))
              have HT := Lib.hid (seen_succ HS.out hyl HY.out)
              rw [hs] at k2
              have hst := ho.stored y true
              obtain ⟨V, hV⟩ : ∃ V, V = wr.setCell ⟨w1.heap.size, y, none⟩ (.bool true) := ⟨_, rfl⟩
              rw [← hV] at hst
              have hBV : Below W0.heap.size W0 V := hb.trans (grown_Below hst.2 hbs (fun q hq => by injection hq with hq; omega))
              have hvs := hBV.size
              have hbFV := hb0.trans (hBV.mono (Nat.le_of_lt s0))
              have HO := Lib.hid hst.1
              have HV := Lib.hid hV
              clear hs ho hb hst hV
              rcases Nat.eq_zero_or_pos k with h0 | h0
              · have HE := Lib.hid (show wayTo s P l (k + 1) = wayTo s P l k by rw [h0, H1.out, H0.out])
                have hk0 : ¬ (0 : Int) < (k : Int) := by omega
                have hk0d : decide ((0 : Int) < (k : Int)) = false := decide_eq_false hk0
                clear h0 hc2
                go_wp2_with fail
                refine (in_yes _ _ _ _ HIN.out).mono ?_
                rintro e wz ⟨rfl, rfl⟩
                go_upto_region 11 with (fail)
                rw [← HV.out]
                go_wp2
                go_roundw
                case rel => exact ⟨k + 1, _, by omega, by rw [HE.out], by go_num, by rw [List.length_set]; exact HL.out, HT.out, HA.out, HO.out, hBV⟩
                case measure => simp [intOf]; omega
              · obtain ⟨m, hkm⟩ : ∃ m, k = m + 1 := ⟨k - 1, by omega⟩
                have hpm := (HP.out m (by omega)).1
                obtain ⟨x, hx⟩ : ∃ x : Nat, gt l m = (x : Int) := ⟨(gt l m).toNat, by omega⟩
                have hxP : x < P.length := by omega
                have HN := Lib.hid (show wayTo s P l (k + 1) = wayTo s P l k + mvZ s P x y by have := HX.out m x y hx (by rw [← hkm]; exact HY.out); rw [hkm]; exact this)
                have hmb := HM.out x y
                have hwb := HB.out k
                obtain ⟨b, o, rfl, lb, hc⟩ := hrd0 (by omega)
                have e0 := (hBV.cell (p := ⟨w.heap.size, 0, none⟩) s0).trans a0
                have e2 := (hBV.cell (p := ⟨w.heap.size, 2, none⟩) s0).trans a2
                have p1 := (hBV.cell (p := ⟨b, o + x * 2, none⟩) lb).trans (hc x hxP).1
                have p2 := (hBV.cell (p := ⟨b, o + x * 2 + 1, none⟩) lb).trans (hc x hxP).2
                have p3 := (hBV.cell (p := ⟨b, o + y * 2, none⟩) lb).trans (hc y hyP).1
                have p4 := (hBV.cell (p := ⟨b, o + y * 2 + 1, none⟩) lb).trans (hc y hyP).2
                have q1 := (hBV.cell (p := ⟨b2, o2 + m, none⟩) lb2).trans (hc2 m (by omega))
                have q2 := (hBV.cell (p := ⟨b2, o2 + k, none⟩) lb2).trans (hc2 k hlt)
                rw [hx] at q1
                rw [HY.out] at q2
                have g0 : w.heap.size < V.heap.size := by omega
                have gb : b < V.heap.size := by omega
                have gb2 : b2 < V.heap.size := by omega
                have h0a : (0 : Int) ≤ (m : Int) := by omega
                have h0b : (m : Int) < (l.length : Int) := by omega
                have h0c : (k : Int) < (l.length : Int) := by omega
                have h0d : (x : Int) < (P.length : Int) := by omega
                have h0e : (y : Int) < (P.length : Int) := by omega
                have h0f : (0 : Int) ≤ (k : Int) := by omega
                have h0g : (0 : Int) ≤ (x : Int) := by omega
                have h0h : (0 : Int) ≤ (y : Int) := by omega
                have h0k : (0 : Int) < (k : Int) := by omega
                have HW1 := Lib.hid (show IntKind.i64.wrap ((k : Int) - 1) = (m : Int) by rw [show ((k : Int) - 1) = (m : Int) by omega]; exact IntWalk.i64_in _ (by omega))
                have HW2 := Lib.hid (show IntKind.i64.wrap (wayTo s P l k + mvZ s P x y) = wayTo s P l k + mvZ s P x y from IntWalk.i64_in _ (by omega))
                obtain ⟨U, hU⟩ : ∃ U, U = wayTo s P l k := ⟨_, rfl⟩
                rw [← hU] at HN hwb HW2 ⊢
                have HMV := Lib.hid (show moveZ (tm P x) (pt P x) (tm P y) (pt P y) s = mvZ s P x y by unfold mvZ; rfl)
                clear hc hc2 hx hU hkm hpm h0
                go_wp2_with fail
                refine (in_yes _ _ _ _ HIN.out).mono ?_
                rintro e wz ⟨rfl, rfl⟩
                go_upto_region 11 with (fail)
                rw [← HV.out]
                go_upto_region 12 with (fail)
                have hw1 := HW1.out
                have hw2 := HW2.out
                go_region_held3 (fun w' => w'.cell? ⟨w.heap.size, 0, none⟩ = some (.int .i64 s) ∧ w'.cell? ⟨w.heap.size, 2, none⟩ = some (.slice (some ⟨b, o, none⟩) P.length c) ∧ w'.cell? ⟨b, o + x * 2, none⟩ = some (.int .i64 (tm P x)) ∧ w'.cell? ⟨b, o + x * 2 + 1, none⟩ = some (.int .i64 (pt P x)) ∧ w'.cell? ⟨b, o + y * 2, none⟩ = some (.int .i64 (tm P y)) ∧ w'.cell? ⟨b, o + y * 2 + 1, none⟩ = some (.int .i64 (pt P y)) ∧ w'.cell? ⟨b2, o2 + m, none⟩ = some (.int .i64 (x : Int)) ∧ w'.cell? ⟨b2, o2 + k, none⟩ = some (.int .i64 (y : Int)) ∧ Below V.heap.size V w') (first | exact hd8_start e0 e2 p1 p2 p3 p4 q1 q2 rfl | assumption | exact hd8_keep g0 g0 gb gb gb gb gb2 gb2 (by assumption) hbz)
                  ((go_at_call 74; refine (spec_Move _ _ _ _ _ _).mono ?_; rintro e wz ⟨rfl, hbz⟩; rw [HMV.out]))
                clear hw1 hw2
                rename_i hH
                have hbl := hd8_bel hH
                have hb2 := hBV.trans (hbl.mono hvs)
                have HO2 := Lib.hid (HO.out.upto hbl (Nat.le_refl _))
                clear hH hbl
                go_wp2
                go_roundw
                case rel => exact ⟨k + 1, _, by omega, by rw [HN.out], by go_num, by rw [List.length_set]; exact HL.out, HT.out, HA.out, HO2.out, hb2⟩
                case measure => simp [intOf]; omega
            · have HF := Lib.hid (HNo.out (HPN.out k hlt (seen_yes HS.out hyl HY.out hs)))
              rw [hs] at k2
              clear hs hc2
              go_wp2_with fail
              refine (in_yes _ _ _ _ HIN.out).mono ?_
              rintro e wz ⟨rfl, rfl⟩
              go_wp2
              go_ret
              exact ⟨ret_int HF.out.symm, hbF⟩
          · have HF := Lib.hid (HNo.out (HPN.out k hlt (fun h => hin (by have := h.1; omega))))
            have HIN := Lib.hid hin
            clear hin hc2
            go_wp2_with fail
            refine (in_no _ _ _ _ HIN.out).mono ?_
            rintro e wz ⟨rfl, rfl⟩
            go_wp2
            go_ret
            exact ⟨ret_int HF.out.symm, hbF⟩
        · obtain rfl : k = l.length := by omega
          have HF := Lib.hid (HYes.out (HPY.out HP.out))
          go_wp2
          go_ret
          exact ⟨ret_int HF.out.symm, hbF⟩
    · have HF := Lib.hid (way_no (s := s) (t := t) (P := P) (l := l) (fun h => hln (prm_ln h.2)))
      have hq : ((l.length : Int) == (P.length : Int)) = false := by simp; omega
      have hq2 : ((l.length : Int) != (P.length : Int)) = true := by simp; omega
      have hq3 : decide ((l.length : Int) = (P.length : Int)) = false := by simp; omega
      have hq4 : decide (l.length = P.length) = false := by simp; omega
      clear hC hln
      go_enter Try.func16, Try.ntmps16
      go_wp2_with fail
      rw [← HW0.out]
      refine (spec_CylOk _ _ _ _ _ _ hrd0 hP).mono ?_
      rintro e w1 ⟨rfl, hb1⟩
      rw [HC.out]
      have e2 := (hb1.cell (p := ⟨w.heap.size, 2, none⟩) s0).trans a2
      have hbF := hb0.trans (hb1.mono (Nat.le_of_lt s0))
      go_wp2
      go_ret
      exact ⟨ret_int HF.out.symm, hbF⟩
end Go.Proofs.Ythgeijgojdmidaa
