/- The times at which a tune sounds harsh: the reference; and the greatest length that is clean. -/
import Derived.Test.YthgeijgojdmidaaHarsh
namespace Go.Proofs.Ythgeijgojdmidaa
open Go.ChangeShapes Go.WideShapes Go.ChangeAt Go.RowKit
set_option linter.unusedVariables false
theorem hsI_keep {l : List Int} {i j : Nat} {f : Bool} (h : hsI l i f j = true) : hsI l i f (j + 1) = true := by show (_ || _) = _; rw [h]; rfl
theorem hsI_next {l : List Int} {i j : Nat} {f : Bool} (h : hsI l i f j = false) : hsI l i f (j + 1) = !swt (gt l i) (gt l j) := by show (_ || _) = _; rw [h]; rfl
attribute [local irreducible] gt souB hrQ hrZ hsF hsI harI onB tuneB swt in
set_option maxHeartbeats 1600000 in
theorem spec_Harsh_ok (A : Option Addr) (c : Nat) (l : List (Int × Int)) (L : Int) (w : World) (hrd : RdN w A l) (hl : l.length ≤ 1000000) (hok : hrOk l L) :
    Calls Try.prog 32 #[.slice A l.length c, .int .i64 L] w (RetI 3 w.heap.size (hrZ l L (onB l) (onB l).length) w) := by
  have hol := onB_len l
  have HK := Lib.hid hok
  have hL := hok.2
  clear hok
  have hrd1 := rdn_alloc2 hrd (Obj.cells #[] 3)
  have hb0 := (Below.refl w.heap.size w).alloc (Nat.le_refl _) (Obj.cells #[] 3)
  have ho0 := OwnI.lit0 w 3
  go_enter Try.func32, Try.ntmps32
  go_wp2_with fail
  refine (l22_yes _ _ _ _ _ hrd1 (by omega) HK.out).mono ?_
  rintro e w1 ⟨rfl, hb1⟩
  have ho1 := ho0.below hb1 rfl
  have hb01 := hb0.trans (hb1.mono (by simp))
  have hr1 := hrd1.below hb1 rfl
  have hz1 : w.heap.size < w1.heap.size := by have := hb1.size; simp at this; omega
  go_wp2_with fail
  refine (spec_OnTimes _ _ _ _ hr1 (by omega)).mono ?_
  rintro e w2 ⟨A2, c2, rfl, ho, _, _, _, hr2, hb2⟩
  have hb02 := hb01.trans (hb2.mono hb01.size)
  have hown1 : OwnI 3 w.heap.size w2 (.slice (some ⟨w.heap.size, 0, none⟩) 0 0) [] := ho1.below hb2 rfl
  have hne1 : (Value.slice (some ⟨w.heap.size, 0, none⟩) 0 0).ownBlock ≠ (Value.slice A2 (onB l).length c2).ownBlock := by
    intro h
    have hx := ho.blk w.heap.size h.symm
    omega
  have ho2 : OwnI 3 w.heap.size w2 (.slice A2 (onB l).length c2) (onB l) := ho.base_le hb01.size
  clear hb2 ho hr2 hrd1 hb0 hb1 ho0 ho1
  go_wp2
  go_loopw [5, 7] (fun v i wr => ∃ K : Nat, K ≤ (onB l).length ∧ i = .int .i64 K ∧ OwnI 3 w.heap.size wr v (hrZ l L (onB l) K) ∧ OwnI 3 w.heap.size wr (.slice A2 (onB l).length c2) (onB l) ∧ v.ownBlock ≠ (Value.slice A2 (onB l).length c2).ownBlock ∧ Below w.heap.size w wr) (fun _ i _ => (onB l).length - (intOf i).toNat)
  case atStart => exact ⟨0, by omega, rfl, by rw [show hrZ l L (onB l) 0 = [] by unfold hrZ; rfl]; exact hown1, ho2, hne1, hb02⟩
  case round =>
    clear hown1 ho2 hne1 hb02
    obtain ⟨K, hK, rfl, hv, hoo, hne, hb⟩ := hrel
    by_cases hlt : K < (onB l).length
    · have hoo' := hoo
      obtain ⟨g, rfl, _, hgl, hcl, _⟩ := hoo.head (by omega)
      have k1 := hcl K hlt
      have hx := onB_rng l hlt
      have hgr := hrZ_len l L (onB l) K
      have hsl := souB_len l (gt (onB l) K) L
      have rk := hrd.below hb rfl
      have HQ := Lib.hid (show hrQ l L (gt (onB l) K) = hsF (souB l (gt (onB l) K) L) (souB l (gt (onB l) K) L).length by unfold hrQ; rfl)
      clear hcl
      go_wp2_with fail
      refine (spec_SoundsAt _ _ _ _ _ _ rk (by omega)).mono ?_
      rintro e w3 ⟨A3, c3, rfl, ho3, hc3, hm3, _, hr3, hb3⟩
      have hb4 := hb.trans (hb3.mono hb.size)
      have hv3 := hv.below hb3 rfl
      have hoo3 := hoo.below hb3 rfl
      have HP := Lib.hid (fun i hi => souB_p60 (l := l) (T := gt (onB l) K) (L := L) (i := i) hi)
      obtain ⟨S, hS⟩ : ∃ S, S = souB l (gt (onB l) K) L := ⟨_, rfl⟩
      rw [← hS] at HQ HP hr3 hsl ⊢
      clear hS ho3 hb3 rk
      have kS := (hoo3.head (by omega))
      obtain ⟨g', he, _, hgl3, hcl3, _⟩ := kS
      have k3 := hcl3 K hlt
      injection he with he
      injection he with he
      subst he
      clear hcl3
      obtain ⟨wo, hwo⟩ : ∃ wo, wo = w3 := ⟨w3, rfl⟩
      subst hwo
      go_wp2
      go_loopw [9, 10] (fun f i wt => ∃ k : Nat, k ≤ S.length ∧ i = .int .i64 k ∧ f = .bool (hsF S k) ∧ Below wo.heap.size wo wt) (fun _ i _ => S.length - (intOf i).toNat)
      case atStart => exact ⟨0, by omega, rfl, by unfold hsF; rfl, Below.refl _ _⟩
      case round =>
        obtain ⟨i, hi, rfl, rfl, hbi⟩ := hrel
        by_cases hli : i < S.length
        · have HD := Lib.hid (show hsF S (i + 1) = hsI S i (hsF S i) i by rw [hsF])
          have HD0 := Lib.hid (show hsI S i (hsF S i) 0 = hsF S i by rw [hsI])
          obtain ⟨f0, hf0⟩ : ∃ f0, f0 = hsF S i := ⟨_, rfl⟩
          rw [← hf0] at HD HD0 ⊢
          clear hf0
          go_wp2
          go_loopw [9, 11] (fun f q wt => ∃ j : Nat, j ≤ i ∧ q = .int .i64 j ∧ f = .bool (hsI S i f0 j) ∧ Below wo.heap.size wo wt) (fun _ q _ => i - (intOf q).toNat)
          case atStart => exact ⟨0, by omega, rfl, by rw [HD0.out], hbi⟩
          case round =>
            obtain ⟨j, hj, rfl, rfl, hbj⟩ := hrel
            by_cases hlj : j < i
            · obtain ⟨b, o, rfl, lb, hcs⟩ := hr3 (by omega)
              have p1 := (hbj.cell (p := ⟨b, o + i, none⟩) lb).trans (hcs i hli)
              have p2 := (hbj.cell (p := ⟨b, o + j, none⟩) lb).trans (hcs j (by omega))
              have u1 := HP.out i hli
              have u2 := HP.out j (by omega)
              have h0a : (0 : Int) ≤ (i : Int) := by omega
              have h0b : (i : Int) < (S.length : Int) := by omega
              have h0c : (0 : Int) ≤ (j : Int) := by omega
              have h0d : (j : Int) < (S.length : Int) := by omega
              clear hcs
              cases hH : hsI S i f0 j
              · have HN := Lib.hid (hsI_next hH)
                clear hH
                go_wp2_with fail
                go_quiet ((go_at_call 87; exact quiet_u (spec_Sweet _ _ _ u1 u2)))
                go_wp2
                go_roundw
                case rel => exact ⟨j + 1, by omega, by go_num, by rw [HN.out], bel_drewN hbj _⟩
                case measure => simp [intOf]; omega
              · have HN := Lib.hid (hsI_keep hH)
                clear hH
                go_wp2_with fail
                go_quiet (fail)
                go_wp2
                go_roundw
                case rel => exact ⟨j + 1, by omega, by go_num, by rw [HN.out], bel_drewN hbj _⟩
                case measure => simp [intOf]; omega
            · obtain rfl : j = i := by omega
              go_wp2
              go_roundw
              case rel => exact ⟨j + 1, by omega, by go_num, by rw [HD.out], hbj⟩
              case measure => simp [intOf]; omega
        · obtain rfl : i = S.length := by omega
          have hb6 := hb4.trans (hbi.mono hb4.size)
          have hBs := hb6.size
          have hv6 := hv3.below hbi rfl
          have hoo6 := hoo3.below hbi rfl
          have k6 := (hbi.cell (p := ⟨g, K, none⟩) hgl3).trans k3
          have h0e : (0 : Int) ≤ (K : Int) := by omega
          have h0f : (K : Int) < ((onB l).length : Int) := by omega
          cases hq : hsF S S.length
          · have HY := Lib.hid (hr_no (HQ.out.trans hq))
            clear hq
            go_wp2
            go_roundw
            case rel => exact ⟨K + 1, by omega, by go_num, by rw [HY.out]; exact hv6, hoo6, hne, hb6⟩
            case measure => simp [intOf]; omega
          · have HY := Lib.hid (hr_yes (HQ.out.trans hq))
            clear hq
            go_wp2_with (at_builtin; refine app_int_b rfl _ _ 25 rfl 3 Try.underlying25 (by kernel_rfl) w.heap.size _ (hrZ l L (onB l) K) (gt (onB l) K) hv6 rfl rfl (by omega) hBs ?_; intro v' w5 hown5 hb5 hgr5 hvb5)
            have hoo7 := hoo6.keep hgr5 (Or.inr hne.symm)
            have hne7 := ne_block hoo6 hne hvb5
            go_roundw
            case rel => exact ⟨K + 1, by omega, by go_num, by rw [HY.out]; exact hown5, hoo7, hne7, hb6.trans hb5⟩
            case measure => simp [intOf]; omega
    · obtain rfl : K = (onB l).length := by omega
      go_wp2
      go_ret
      exact RetI.mk hv hb
theorem spec_Harsh (A : Option Addr) (c : Nat) (l : List (Int × Int)) (L : Int) (w : World) (hrd : RdN w A l) (hl : l.length ≤ 1000000000) :
    Calls Try.prog 32 #[.slice A l.length c, .int .i64 L] w (RetI 3 w.heap.size (hrB l L) w) := by
  by_cases hok : hrOk l L
  · rw [hrB_yes hok]
    have h1 := tune_len2 hok.1
    exact spec_Harsh_ok A c l L w hrd (by omega) hok
  · have HV := Lib.hid (hrB_no hok)
    have HK := Lib.hid hok
    have hrd1 := rdn_alloc2 hrd (Obj.cells #[] 3)
    have hb0 := (Below.refl w.heap.size w).alloc (Nat.le_refl _) (Obj.cells #[] 3)
    have ho0 := OwnI.lit0 w 3
    clear hok
    go_enter Try.func32, Try.ntmps32
    go_wp2_with fail
    refine (l22_no _ _ _ _ _ hrd1 (by omega) HK.out).mono ?_
    rintro e w1 ⟨rfl, hb1⟩
    have ho1 := ho0.below hb1 rfl
    have hb2 := hb0.trans (hb1.mono (by simp))
    go_wp2
    go_ret
    rw [HV.out]
    exact RetI.mk ho1 hb2
noncomputable def lcZ (l : List (Int × Int)) : Nat → Nat
  | 0 => 0
  | n + 1 => if (hrB l ((n : Int) + 1)).length = 0 then n + 1 else lcZ l n
theorem lc_yes {l : List (Int × Int)} {n : Nat} (h : (hrB l ((n : Int) + 1)).length = 0) : lcZ l (n + 1) = n + 1 := if_pos h
theorem lc_no {l : List (Int × Int)} {n : Nat} (h : ¬ (hrB l ((n : Int) + 1)).length = 0) : lcZ l (n + 1) = lcZ l n := if_neg h
noncomputable def lcB (l : List (Int × Int)) : Int := if tuneB l = true then (lcZ l 100 : Int) else 0
theorem lcB_yes {l : List (Int × Int)} (h : tuneB l = true) : lcB l = (lcZ l 100 : Int) := if_pos h
theorem lcB_no {l : List (Int × Int)} (h : tuneB l = false) : lcB l = 0 := if_neg (by rw [h]; simp)
attribute [local irreducible] lcZ hrB tuneB in
set_option maxHeartbeats 800000 in
theorem impl_Clean (A : Option Addr) (c : Nat) (l : List (Int × Int)) (w : World) (hrd : RdN w A l) (hl : l.length ≤ 1000000000) :
    Calls Try.prog 30 #[.slice A l.length c] w fun e w' => e = .returned (.int .i64 (lcB l)) ∧ Below w.heap.size w w' := by
  cases hB : tuneB l
  · have HV := Lib.hid (lcB_no hB)
    have HB := Lib.hid hB
    clear hB
    go_enter Try.func30, Try.ntmps30
    go_wp2_with fail
    refine (impl_TuneOk _ _ _ _ hrd (by omega)).mono ?_
    rintro e w1 ⟨rfl, hb1⟩
    rw [HB.out]
    go_wp2
    go_ret
    exact ⟨ret_int HV.out.symm, hb1⟩
  · have HV := Lib.hid (lcB_yes hB)
    have HB := Lib.hid hB
    clear hB
    go_enter Try.func30, Try.ntmps30
    go_wp2_with fail
    refine (impl_TuneOk _ _ _ _ hrd (by omega)).mono ?_
    rintro e w1 ⟨rfl, hb1⟩
    rw [HB.out]
    have hr1 := hrd.below hb1 rfl
    clear hrd
    go_wp2
    go_loopw [3] (fun i wr => ∃ n : Nat, n ≤ 100 ∧ i = .int .i64 n ∧ lcZ l 100 = lcZ l n ∧ Below w1.heap.size w1 wr) (fun i _ => (intOf i).toNat)
    case atStart => exact ⟨100, by omega, rfl, rfl, Below.refl _ _⟩
    case round =>
      obtain ⟨n, hn, rfl, hM, hb⟩ := hrel
      have HM := Lib.hid hM
      clear hM
      rcases Nat.eq_zero_or_pos n with h0 | h0
      · have HZ := Lib.hid (show lcB l = 0 by rw [HV.out, HM.out, h0, lcZ]; rfl)
        subst h0
        go_wp2
        go_ret
        exact ⟨ret_int HZ.out.symm, hb1.trans (hb.mono hb1.size)⟩
      · obtain ⟨m, rfl⟩ : ∃ m, n = m + 1 := ⟨n - 1, by omega⟩
        have hcast : ((m + 1 : Nat) : Int) = (m : Int) + 1 := by omega
        have hge : (1 : Int) ≤ (m : Int) + 1 := by omega
        rw [hcast]
        have hlen := hrB_len l ((m : Int) + 1)
        clear hcast
        go_wp2_with fail
        refine (impl_Harsh _ _ _ _ _ (hr1.below hb rfl) (by omega)).mono ?_
        rintro e w2 ⟨A2, c2, rfl, _, _, _, _, _, hb2⟩
        have hb3 := hb.trans (hb2.mono hb.size)
        by_cases hz : (hrB l ((m : Int) + 1)).length = 0
        · have HY := Lib.hid (show lcB l = (m : Int) + 1 by rw [HV.out, HM.out, lc_yes hz]; rfl)
          have hq : ((hrB l ((m : Int) + 1)).length == 0) = true := by simpa using hz
          have hq2 : (((hrB l ((m : Int) + 1)).length : Int) == 0) = true := by simpa using hz
          have hq3 := List.length_eq_zero_iff.1 hz
          clear hz
          go_wp2
          go_ret
          exact ⟨ret_int HY.out.symm, hb1.trans (hb3.mono hb1.size)⟩
        · have HY := Lib.hid (HM.out.trans (lc_no hz))
          have hq2 : (((hrB l ((m : Int) + 1)).length : Int) == 0) = false := by rw [beq_eq_false_iff_ne]; omega
          have hq3 : ¬ hrB l ((m : Int) + 1) = [] := fun h => hz (List.length_eq_zero_iff.2 h)
          clear hz
          go_wp2
          go_roundw
          case rel => exact ⟨m, by omega, by go_num, HY.out, hb3⟩
          case measure => simp [intOf]
attribute [local irreducible] lcZ hrB tuneB in
set_option maxHeartbeats 800000 in
theorem spec_Clean (A : Option Addr) (c : Nat) (l : List (Int × Int)) (w : World) (hrd : RdN w A l) (hl : l.length ≤ 1000000000) :
    Calls Try.prog 28 #[.slice A l.length c] w fun e w' => e = .returned (.int .i64 (lcB l)) ∧ Below w.heap.size w w' := by
  cases hB : tuneB l
  · have HV := Lib.hid (lcB_no hB)
    have HB := Lib.hid hB
    clear hB
    go_enter Try.func28, Try.ntmps28
    go_wp2_with fail
    refine (spec_TuneOk _ _ _ _ hrd (by omega)).mono ?_
    rintro e w1 ⟨rfl, hb1⟩
    rw [HB.out]
    go_wp2
    go_ret
    exact ⟨ret_int HV.out.symm, hb1⟩
  · have HV := Lib.hid (lcB_yes hB)
    have HB := Lib.hid hB
    clear hB
    go_enter Try.func28, Try.ntmps28
    go_wp2_with fail
    refine (spec_TuneOk _ _ _ _ hrd (by omega)).mono ?_
    rintro e w1 ⟨rfl, hb1⟩
    rw [HB.out]
    have hr1 := hrd.below hb1 rfl
    clear hrd
    go_wp2
    go_loopw [3] (fun i wr => ∃ n : Nat, n ≤ 100 ∧ i = .int .i64 n ∧ lcZ l 100 = lcZ l n ∧ Below w1.heap.size w1 wr) (fun i _ => (intOf i).toNat)
    case atStart => exact ⟨100, by omega, rfl, rfl, Below.refl _ _⟩
    case round =>
      obtain ⟨n, hn, rfl, hM, hb⟩ := hrel
      have HM := Lib.hid hM
      clear hM
      rcases Nat.eq_zero_or_pos n with h0 | h0
      · have HZ := Lib.hid (show lcB l = 0 by rw [HV.out, HM.out, h0, lcZ]; rfl)
        subst h0
        go_wp2
        go_ret
        exact ⟨ret_int HZ.out.symm, hb1.trans (hb.mono hb1.size)⟩
      · obtain ⟨m, rfl⟩ : ∃ m, n = m + 1 := ⟨n - 1, by omega⟩
        have hcast : ((m + 1 : Nat) : Int) = (m : Int) + 1 := by omega
        have hge : (1 : Int) ≤ (m : Int) + 1 := by omega
        rw [hcast]
        have hlen := hrB_len l ((m : Int) + 1)
        clear hcast
        go_wp2_with fail
        refine (spec_Harsh _ _ _ _ _ (hr1.below hb rfl) (by omega)).mono ?_
        rintro e w2 ⟨A2, c2, rfl, _, _, _, _, _, hb2⟩
        have hb3 := hb.trans (hb2.mono hb.size)
        by_cases hz : (hrB l ((m : Int) + 1)).length = 0
        · have HY := Lib.hid (show lcB l = (m : Int) + 1 by rw [HV.out, HM.out, lc_yes hz]; rfl)
          have hq : ((hrB l ((m : Int) + 1)).length == 0) = true := by simpa using hz
          have hq2 : (((hrB l ((m : Int) + 1)).length : Int) == 0) = true := by simpa using hz
          have hq3 := List.length_eq_zero_iff.1 hz
          clear hz
          go_wp2
          go_ret
          exact ⟨ret_int HY.out.symm, hb1.trans (hb3.mono hb1.size)⟩
        · have HY := Lib.hid (HM.out.trans (lc_no hz))
          have hq2 : (((hrB l ((m : Int) + 1)).length : Int) == 0) = false := by rw [beq_eq_false_iff_ne]; omega
          have hq3 : ¬ hrB l ((m : Int) + 1) = [] := fun h => hz (List.length_eq_zero_iff.2 h)
          clear hz
          go_wp2
          go_roundw
          case rel => exact ⟨m, by omega, by go_num, HY.out, hb3⟩
          case measure => simp [intOf]
end Go.Proofs.Ythgeijgojdmidaa
