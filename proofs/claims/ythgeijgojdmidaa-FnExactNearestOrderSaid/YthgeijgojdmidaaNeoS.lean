/- The nearest order: the reference. -/
import Derived.Test.YthgeijgojdmidaaNeoI
import Derived.Test.YthgeijgojdmidaaApp
namespace Go.Proofs.Ythgeijgojdmidaa
open Go.ChangeShapes Go.WideShapes Go.ChangeAt Go.RowKit
set_option linter.unusedVariables false
def seenD (D : List Int) (L : List Bool) : Prop := ∀ x, x < L.length → gbo L x = hasL D (x : Int)
theorem seenD_zero (n : Nat) : seenD [] (List.replicate n false) := fun x _ => by rw [gbo_rep]; rfl
theorem seenD_succ {D : List Int} {y : Nat} {L : List Bool} (h : seenD D L) (hy : y < L.length) : seenD (D ++ [(y : Int)]) (L.set y true) := by
  intro x hx
  rw [List.length_set] at hx
  rw [gbo_set _ _ _ _ hy]
  by_cases e : x = y
  · rw [if_pos e, e]; exact (has_iff.2 (by simp)).symm
  · rw [if_neg e, h x hx]
    unfold hasL
    rw [decide_eq_decide, List.mem_append, List.mem_singleton]
    constructor
    · exact Or.inl
    · rintro (h | h)
      · exact h
      · exact absurd (by omega) e
theorem OwnT.keep {e B : Nat} {w w' : World} {v : Value} {L : List Bool} {row : Option Nat} (h : OwnT e B w v L) (hg : w.grownBy w' row) (hne : v.ownBlock = none ∨ v.ownBlock ≠ row) : OwnT e B w' v L := World.ownsRow.kept h hg hne
theorem ne_blockS {W : World} {e s n B : Nat} {v v' ov : Value} {xs : List Value} (hown : W.ownsRow B e s ov n xs) (hne : v.ownBlock ≠ ov.ownBlock) (hv : v'.ownBlock = v.ownBlock ∨ ∃ k, v'.ownBlock = some k ∧ W.heap.size ≤ k) : v'.ownBlock ≠ ov.ownBlock := by
  rcases hv with hv | ⟨k, hv, hk⟩
  · rw [hv]; exact hne
  · intro h
    rw [hv] at h
    have := World.ownsRow.lt hown k h.symm
    omega
attribute [local irreducible] tm pt gt gbo cylB nbB nbL neaTo mvZ moveZ hasL cstZ in
set_option maxHeartbeats 3200000 in
theorem spec_Neo (s t : Int) (A : Option Addr) (c : Nat) (P : List (Int × Int)) (w : World) (hrd : RdN w A P) (hP : P.length ≤ 1000000000) :
    Calls Try.prog 22 #[.agg #[.int .i64 s, .int .i64 t, .slice A P.length c]] w (RetI 3 w.heap.size (neaZ s t P) w) := by
  obtain ⟨W0, hW0⟩ : ∃ W, W = w.alloc (.cells #[.int .i64 s, .int .i64 t, .slice A P.length c] 30) := ⟨_, rfl⟩
  have hb0 : Below w.heap.size w W0 := by rw [hW0]; exact (Below.refl _ _).alloc (Nat.le_refl _) _
  have s0 : w.heap.size < W0.heap.size := by rw [hW0]; simp
  have a0 : W0.cell? ⟨w.heap.size, 0, none⟩ = some (.int .i64 s) := by rw [hW0]; simp [go_sem]
  have a1 : W0.cell? ⟨w.heap.size, 1, none⟩ = some (.int .i64 t) := by rw [hW0]; simp [go_sem]
  have a2 : W0.cell? ⟨w.heap.size, 2, none⟩ = some (.slice A P.length c) := by rw [hW0]; simp [go_sem]
  have hrd0 := hrd.below hb0 rfl
  obtain ⟨W1, hW1⟩ : ∃ W, W = W0.alloc (.cells #[] 3) := ⟨_, rfl⟩
  have hb1 : Below W0.heap.size W0 W1 := by rw [hW1]; exact (Below.refl _ _).alloc (Nat.le_refl _) _
  have s1 : W0.heap.size < W1.heap.size := by rw [hW1]; simp
  have ho1 : OwnI 3 W0.heap.size W1 (.slice (some ⟨W0.heap.size, 0, none⟩) 0 0) [] := by rw [hW1]; exact OwnI.lit0 _ _
  have HW1 := Lib.hid (show W1 = (w.alloc (.cells #[.int .i64 s, .int .i64 t, .slice A P.length c] 30)).alloc (.cells #[] 3) by rw [hW1, hW0])
  have HS0 := Lib.hid (show W0.heap.size = w.heap.size + 1 by rw [hW0]; simp)
  clear hW0 hrd hW1
  cases hC : cylB s t P
  · have HF := Lib.hid (neaZ_no hC)
    have HC := Lib.hid hC
    clear hC
    go_enter Try.func22, Try.ntmps22
    go_wp2_with fail
    rw [← HW1.out]
    refine (spec_CylOk _ _ _ _ _ _ (hrd0.below hb1 rfl) hP).mono ?_
    rintro e w2 ⟨rfl, hb2⟩
    rw [HC.out]
    have hb02 := hb1.trans (hb2.mono (Nat.le_of_lt s1))
    have ho2 := ho1.below hb2 rfl
    have e2 := (hb02.cell (p := ⟨w.heap.size, 2, none⟩) s0).trans a2
    have hbF := hb0.trans (hb02.mono (Nat.le_of_lt s0))
    have hoF := ho2.base_le (Nat.le_of_lt s0)
    rw [HS0.out] at hoF
    go_wp2
    go_ret
    rw [HF.out]
    exact RetI.mk hoF hbF
  · have hP100 := cyl_len hC
    have HF := Lib.hid (neaZ_yes hC)
    have HC := Lib.hid hC
    have HZ0 := Lib.hid (show neaTo s P 0 = [] by rw [neaTo])
    clear hC
    by_cases hz : P.length = 0
    · have hz1 : ((P.length : Int) == 0) = true := beq_iff_eq.2 (by omega)
      have hz2 : decide ((P.length : Int) = 0) = true := decide_eq_true (by omega)
      have hz3 : decide (P.length = 0) = true := decide_eq_true (by omega)
      have HZ := Lib.hid (show neaTo s P P.length = [] by rw [hz, HZ0.out])
      clear hz
      go_enter Try.func22, Try.ntmps22
      go_wp2_with fail
      rw [← HW1.out]
      refine (spec_CylOk _ _ _ _ _ _ (hrd0.below hb1 rfl) hP).mono ?_
      rintro e w2 ⟨rfl, hb2⟩
      rw [HC.out]
      have hb02 := hb1.trans (hb2.mono (Nat.le_of_lt s1))
      have ho2 := ho1.below hb2 rfl
      have e2 := (hb02.cell (p := ⟨w.heap.size, 2, none⟩) s0).trans a2
      have hbF := hb0.trans (hb02.mono (Nat.le_of_lt s0))
      have hoF := ho2.base_le (Nat.le_of_lt s0)
      rw [HS0.out] at hoF
      go_wp2
      go_ret
      rw [HF.out, HZ.out]
      exact RetI.mk hoF hbF
    · have hz0 : 0 < P.length := by omega
      have hz1 : ((P.length : Int) == 0) = false := beq_eq_false_iff_ne.2 (by omega)
      have hz2 : decide ((P.length : Int) = 0) = false := decide_eq_false (by omega)
      have hz3 : decide (P.length = 0) = false := decide_eq_false (by omega)
      have HN0 := Lib.hid (show nbB s P [] P.length = 0 by have := (nb_first (s := s) (P := P) (P.length - 1)).1; rwa [show P.length - 1 + 1 = P.length by omega] at this)
      have HLN := Lib.hid (nea_len s P)
      have HOK := Lib.hid (nea_ok s P)
      have HNX := Lib.hid (nea_succ s P)
      have HSZ := Lib.hid (seenD_zero P.length)
      clear hz
      go_enter Try.func22, Try.ntmps22
      go_wp2_with fail
      rw [← HW1.out]
      refine (spec_CylOk _ _ _ _ _ _ (hrd0.below hb1 rfl) hP).mono ?_
      rintro e w2 ⟨rfl, hb2⟩
      rw [HC.out]
      have hb02 := hb1.trans (hb2.mono (Nat.le_of_lt s1))
      have ho2 := ho1.below hb2 rfl
      have e2 := (hb02.cell (p := ⟨w.heap.size, 2, none⟩) s0).trans a2
      have hw12 : W0.heap.size < w2.heap.size := Nat.lt_of_lt_of_le s1 hb2.size
      have ho2' : OwnI 3 W0.heap.size w2 (.slice (some ⟨w.heap.size + 1, 0, none⟩) 0 0) [] := by rw [← HS0.out]; exact ho2
      go_wp2_with (at_make; refine make_bools rfl _ _ 89 rfl 4 Try.underlying89 (by kernel_rfl) w2.heap.size P.length rfl rfl hP (Nat.le_refl _) ?_; intro w3 hown hb3 hz3w)
      have hb03 := hb02.trans (hb3.mono hb02.size)
      have ho3 := ho2'.upto hb3 (Nat.le_refl _)
      have hne3 : (Value.slice (some ⟨w.heap.size + 1, 0, none⟩) 0 0).ownBlock ≠ (Value.slice (some ⟨w2.heap.size, 0, none⟩) P.length P.length).ownBlock := by
        intro h
        have h' : w.heap.size + 1 = w2.heap.size := Option.some.inj h
        have := HS0.out
        omega
      clear e2 ho2 ho2' hb3
      go_loopw [3, 5] (fun v a wr => ∃ (j x : Nat) (Ao : Option Addr) (co : Nat) (L : List Bool), j < P.length ∧ v = .slice Ao (neaTo s P j).length co ∧ a = .int .i64 (x : Int) ∧ nbB s P (neaTo s P j) P.length = (x : Int) ∧ L.length = P.length ∧ seenD (neaTo s P j) L ∧ OwnI 3 W0.heap.size wr (.slice Ao (neaTo s P j).length co) (neaTo s P j) ∧ OwnT 4 w2.heap.size wr (.slice (some ⟨w2.heap.size, 0, none⟩) P.length P.length) L ∧ (Value.slice Ao (neaTo s P j).length co).ownBlock ≠ (Value.slice (some ⟨w2.heap.size, 0, none⟩) P.length P.length).ownBlock ∧ Below W0.heap.size W0 wr) (fun v _ _ => P.length - slen v)
      case atStart => exact ⟨0, 0, _, _, _, by omega, by rw [HZ0.out]; rfl, rfl, by rw [HZ0.out]; exact HN0.out, List.length_replicate, by rw [HZ0.out]; exact HSZ.out, by rw [HZ0.out]; exact ho3, hown, by rw [HZ0.out]; exact hne3, hb03⟩
      case round =>
        clear hown hb03 ho3 hne3
        obtain ⟨j, x, Ao, co, L, hj, rfl, rfl, hx, hL, hS, ho, hT, hne, hb⟩ := hrel
        have hbs := hb.size
        have HLN1 := Lib.hid (HLN.out (j + 1))
        have HLN0 := Lib.hid (HLN.out j)
        have hDl : (neaTo s P j).length ≤ 100 := by rw [HLN.out]; omega
        have HX := Lib.hid (show neaTo s P (j + 1) = neaTo s P j ++ [(x : Int)] by rw [HNX.out j, hx])
        have HI := nb_inv s P (neaTo s P j) P.length
        have hxP : x < P.length := by have := HI.1.2; omega
        have HS := Lib.hid hS
        have HL := Lib.hid hL
        have hxL : x < L.length := by omega
        have hxi : (x : Int) < (P.length : Int) := by omega
        have hxi0 : (0 : Int) ≤ (x : Int) := by omega
        clear hx hS hL HI
        go_upto_region 7 with (at_builtin; refine app_int_b rfl _ _ 25 rfl 3 Try.underlying25 (by kernel_rfl) W0.heap.size _ (neaTo s P j) (x : Int) ho rfl rfl (by omega) hbs ?_; intro v' w5 hown5 hb5 hgr5 hvb5)
        have hT5 := hT.keep hgr5 (Or.inr hne.symm)
        have hne5 := ne_blockS hT hne hvb5
        have hb05 := hb.trans hb5
        rw [← HX.out] at hown5
        obtain ⟨A5, c5, rfl, _, _, _⟩ := hown5.rd
        obtain ⟨g, he, hgb, hgl, hcg, hfg⟩ := hT5.head (by omega)
        injection he with he
        injection he with he
        subst he
        have c5x := hcg x hxL
        have f5x := hfg x
        have hst := hT5.stored x true
        obtain ⟨V, hV⟩ : ∃ V, V = w5.setCell ⟨w2.heap.size, x, none⟩ (.bool true) := ⟨_, rfl⟩
        rw [← hV] at hst
        have hBV : Below W0.heap.size W0 V := hb05.trans (grown_Below hst.2 hb05.size (fun q hq => by injection hq with hq; omega))
        have hoV := hown5.keep hst.2 (Or.inr hne5)
        have hTV := hst.1
        have HSV := Lib.hid (show seenD (neaTo s P (j + 1)) (L.set x true) by rw [HX.out]; exact seenD_succ HS.out hxL)
        have HLV := Lib.hid (show (L.set x true).length = P.length by rw [List.length_set]; exact HL.out)
        have HC := Lib.hid (show ∀ k, cstZ s P (neaTo s P (j + 1)) k = mvZ s P x k from fun k => by
          unfold cstZ
          rw [if_neg (by rw [HLN1.out]; omega), HLN1.out, show j + 1 - 1 = j by omega, HX.out]
          have := gt_snoc_last (neaTo s P j) (x : Int)
          rw [HLN0.out] at this
          rw [this]; rfl)
        have HO := Lib.hid (HOK.out (j + 1) (by omega))
        have hvs := hBV.size
        have HVV := Lib.hid hV
        obtain ⟨L2, hL2⟩ : ∃ L2, L2 = L.set x true := ⟨_, rfl⟩
        rw [← hL2] at HSV HLV hTV
        obtain ⟨D, hD⟩ : ∃ D, D = neaTo s P (j + 1) := ⟨_, rfl⟩
        rw [← hD] at HSV HC HO hoV hne5 HLN1 ⊢
        have HD := Lib.hid hD
        have HIV := Lib.hid (nb_inv s P D)
        have HZ := Lib.hid (nb_zero s P D)
        have hDl1 : D.length ≤ j + 1 := by rw [HLN1.out]; omega
        have hDl2 : j + 1 ≤ D.length := by rw [HLN1.out]; omega
        have hL2a : L2.length ≤ P.length := by rw [HLV.out]; omega
        have hL2b : P.length ≤ L2.length := by rw [HLV.out]; omega
        clear hD hL2 hV hst hown5 hT5 hT ho hb5 hgr5 hvb5 hne hb hcg hfg hgb hgl
        go_wp2
        go_loopw [6, 7] (fun u i wt => ∃ k : Nat, k ≤ P.length ∧ u = .int .i64 (nbB s P D k) ∧ i = .int .i64 k ∧ Below V.heap.size V wt) (fun _ i _ => P.length - (intOf i).toNat)
        case atStart => exact ⟨0, by omega, by rw [HZ.out.1], rfl, by rw [HVV.out]; exact Below.refl _ _⟩
        case round =>
          obtain ⟨k, hk, rfl, rfl, hbt⟩ := hrel
          have hbT := hBV.trans (hbt.mono hvs)
          have e2 := (hbT.cell (p := ⟨w.heap.size, 2, none⟩) s0).trans a2
          by_cases hkl : k < P.length
          · have e0 := (hbT.cell (p := ⟨w.heap.size, 0, none⟩) s0).trans a0
            have hTt := hTV.upto hbt (Nat.le_refl _)
            obtain ⟨g, he, hgb, hgl, hcg, _⟩ := hTt.head (by omega)
            injection he with he
            injection he with he
            subst he
            have d1 := hcg k (by omega)
            rw [HSV.out k (by omega)] at d1
            have h0i : (0 : Int) ≤ (k : Int) := by omega
            have h0j : (k : Int) < (P.length : Int) := by omega
            have hi := HIV.out k
            have hi1 := hi.1
            have HII := Lib.hid hi.2.1
            clear hcg hi hTt
            cases hh : hasL D (k : Int)
            · have HH := Lib.hid hh
              rw [hh] at d1
              clear hh
              by_cases h1 : nbB s P D k < 0
              · have HE := Lib.hid (nb_yes HH.out (Or.inl h1))
                have h1d : decide (nbB s P D k < 0) = true := decide_eq_true h1
                go_wp2_with fail
                go_quiet (fail)
                go_wp2
                go_roundw
                case rel => exact ⟨k + 1, by omega, by rw [HE.out.1], by go_num, bel_drewN hbt _⟩
                case measure => simp [intOf]; omega
              · obtain ⟨y, hy⟩ : ∃ y : Nat, nbB s P D k = (y : Int) := ⟨(nbB s P D k).toNat, by omega⟩
                have hyP : y < P.length := by omega
                have HLL := Lib.hid (show nbL s P D k = mvZ s P x y by rw [(HII.out (by omega)).2, HC.out, hy]; rfl)
                obtain ⟨b, o, rfl, lb, hc⟩ := hrd0 (by omega)
                have p1 := (hbT.cell (p := ⟨b, o + x * 2, none⟩) lb).trans (hc x hxP).1
                have p2 := (hbT.cell (p := ⟨b, o + x * 2 + 1, none⟩) lb).trans (hc x hxP).2
                have p3 := (hbT.cell (p := ⟨b, o + k * 2, none⟩) lb).trans (hc k hkl).1
                have p4 := (hbT.cell (p := ⟨b, o + k * 2 + 1, none⟩) lb).trans (hc k hkl).2
                have p5 := (hbT.cell (p := ⟨b, o + y * 2, none⟩) lb).trans (hc y hyP).1
                have p6 := (hbT.cell (p := ⟨b, o + y * 2 + 1, none⟩) lb).trans (hc y hyP).2
                have hbts := hbT.size
                have q0 : w.heap.size < wr.heap.size := by omega
                have mW : b < wr.heap.size := by omega
                have h0y : (0 : Int) ≤ (y : Int) := by omega
                have h0z : (y : Int) < (P.length : Int) := by omega
                have h1' : ¬ (y : Int) < 0 := by omega
                have h1d : decide ((y : Int) < 0) = false := decide_eq_false h1'
                have HM1 := Lib.hid (show moveZ (tm P x) (pt P x) (tm P k) (pt P k) s = mvZ s P x k by unfold mvZ; rfl)
                have HM2 := Lib.hid (show moveZ (tm P x) (pt P x) (tm P y) (pt P y) s = mvZ s P x y by unfold mvZ; rfl)
                have HCk := Lib.hid (HC.out k)
                rw [hy]
                have HY := Lib.hid hy
                have H1 := Lib.hid h1
                clear hc hy h1 e0
                have e0 := (hbT.cell (p := ⟨w.heap.size, 0, none⟩) s0).trans a0
                by_cases h2 : mvZ s P x k < mvZ s P x y
                · have HE := Lib.hid (nb_yes HH.out (Or.inr (by rw [HCk.out, HLL.out]; exact h2)))
                  go_wp2_with fail
                  go_region_held3 (fun w' => w'.cell? ⟨w.heap.size, 0, none⟩ = some (.int .i64 s) ∧ w'.cell? ⟨w.heap.size, 2, none⟩ = some (.slice (some ⟨b, o, none⟩) P.length c) ∧ w'.cell? ⟨b, o + x * 2, none⟩ = some (.int .i64 (tm P x)) ∧ w'.cell? ⟨b, o + x * 2 + 1, none⟩ = some (.int .i64 (pt P x)) ∧ w'.cell? ⟨b, o + k * 2, none⟩ = some (.int .i64 (tm P k)) ∧ w'.cell? ⟨b, o + k * 2 + 1, none⟩ = some (.int .i64 (pt P k)) ∧ w'.cell? ⟨b, o + y * 2, none⟩ = some (.int .i64 (tm P y)) ∧ w'.cell? ⟨b, o + y * 2 + 1, none⟩ = some (.int .i64 (pt P y)) ∧ w'.cell? ⟨w2.heap.size, k, none⟩ = some (.bool false) ∧ Below wr.heap.size wr w') (first | exact hd9_start e0 e2 p1 p2 p3 p4 p5 p6 d1 rfl | assumption | exact hd9_keep q0 q0 mW mW mW mW mW mW hgl (by assumption) hbz)
                    ((go_at_call 74; refine (spec_Move _ _ _ _ _ _).mono ?_; rintro e wz ⟨rfl, hbz⟩; (first | rw [HM1.out] | rw [HM2.out])))
                  rename_i hH
                  have hbt2 := hbt.trans ((hd9_bel hH).mono hbt.size)
                  clear hH
                  go_wp2
                  go_roundw
                  case rel => exact ⟨k + 1, by omega, by rw [HE.out.1], by go_num, hbt2⟩
                  case measure => simp [intOf]; omega
                · have HE := Lib.hid (nb_no HH.out (fun h => h.elim H1.out (by rw [HCk.out, HLL.out]; exact h2)))
                  go_wp2_with fail
                  go_region_held3 (fun w' => w'.cell? ⟨w.heap.size, 0, none⟩ = some (.int .i64 s) ∧ w'.cell? ⟨w.heap.size, 2, none⟩ = some (.slice (some ⟨b, o, none⟩) P.length c) ∧ w'.cell? ⟨b, o + x * 2, none⟩ = some (.int .i64 (tm P x)) ∧ w'.cell? ⟨b, o + x * 2 + 1, none⟩ = some (.int .i64 (pt P x)) ∧ w'.cell? ⟨b, o + k * 2, none⟩ = some (.int .i64 (tm P k)) ∧ w'.cell? ⟨b, o + k * 2 + 1, none⟩ = some (.int .i64 (pt P k)) ∧ w'.cell? ⟨b, o + y * 2, none⟩ = some (.int .i64 (tm P y)) ∧ w'.cell? ⟨b, o + y * 2 + 1, none⟩ = some (.int .i64 (pt P y)) ∧ w'.cell? ⟨w2.heap.size, k, none⟩ = some (.bool false) ∧ Below wr.heap.size wr w') (first | exact hd9_start e0 e2 p1 p2 p3 p4 p5 p6 d1 rfl | assumption | exact hd9_keep q0 q0 mW mW mW mW mW mW hgl (by assumption) hbz)
                    ((go_at_call 74; refine (spec_Move _ _ _ _ _ _).mono ?_; rintro e wz ⟨rfl, hbz⟩; (first | rw [HM1.out] | rw [HM2.out])))
                  rename_i hH
                  have hbt2 := hbt.trans ((hd9_bel hH).mono hbt.size)
                  clear hH
                  go_wp2
                  go_roundw
                  case rel => exact ⟨k + 1, by omega, by rw [HE.out.1, HY.out], by go_num, hbt2⟩
                  case measure => simp [intOf]; omega
            · have HE := Lib.hid (nb_has (s := s) (P := P) hh)
              rw [hh] at d1
              clear hh
              go_wp2_with fail
              go_quiet (fail)
              go_wp2
              go_roundw
              case rel => exact ⟨k + 1, by omega, by rw [HE.out.1], by go_num, bel_drewN hbt _⟩
              case measure => simp [intOf]; omega
          · obtain rfl : k = P.length := by omega
            have hoT := hoV.upto hbt (Nat.le_refl _)
            have hTT := hTV.upto hbt (Nat.le_refl _)
            by_cases hjn : j + 1 < P.length
            · have hp := nb_pos (s := s) (P := P) (D := D) (by omega)
              obtain ⟨y, hy⟩ : ∃ y : Nat, nbB s P D P.length = (y : Int) := ⟨(nbB s P D P.length).toNat, by omega⟩
              rw [hy]
              have HY := Lib.hid hy
              have h1' : ¬ (y : Int) < 0 := by omega
              clear hy hp
              go_wp2
              go_roundw
              case rel => exact ⟨j + 1, y, A5, c5, L2, hjn, by rw [← HD.out], rfl, by rw [← HD.out]; exact HY.out, HLV.out, by rw [← HD.out]; exact HSV.out, by rw [← HD.out]; exact hoT, hTT, by rw [← HD.out]; exact hne5, hbT⟩
              case measure => simp [slen]; rw [HLN1.out, HLN0.out]; omega
            · have hp := nb_neg (s := s) HO.out (by omega)
              have hbF := hb0.trans (hbT.mono (Nat.le_of_lt s0))
              have hoF := hoT.base_le (Nat.le_of_lt s0)
              have HDF := Lib.hid (show D = neaTo s P P.length by rw [HD.out, show j + 1 = P.length by omega])
              go_wp2
              go_ret
              rw [HF.out, ← HDF.out]
              exact RetI.mk hoF hbF
end Go.Proofs.Ythgeijgojdmidaa
