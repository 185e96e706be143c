/- The walk of FnScales. -/
import Derived.Test.YtjfaodbjmanfnaaScaP
import Derived.Test.YtjfaodbjmanfnaaRotP
import Derived.Test.YtjfaodbjmanfnaaArgB
import Derived.Test.YtjfaodbjmanfnaaDTune
import Derived.Test.YtjfaodbjmanfnaaLawH
namespace Go.Proofs.Ytjfaodbjmanfnaa
open Go.ChangeShapes Go.WideShapes Go.ChangeAt Go.RowKit
set_option linter.unusedVariables false
attribute [local irreducible] tm pt tuneB stuB stU scfB bstB wroB rotZ symZ hasI higL higB higR in
set_option maxHeartbeats 3200000 in
set_option maxRecDepth 100000 in
theorem walk_FnScales (A : Option Addr) (c : Nat) (l0 : List Int) (w : World) (w0 : l0.length ≤ c ∧ c ≤ maxLen ∧ RdU w A l0.length w.heap.size ∧ True) :
    Calls Try.prog 14 #[.slice A l0.length c] w fun e w' => e = .returned (.bool true) ∧ Below w.heap.size w w' := by
  obtain ⟨_, _, hr, _⟩ := w0
  generalize l0.length = n at *
  by_cases hn : n ≤ 1048576
  · go_enter Try.func14, Try.ntmps14
    go_wp2_with fail
    refine (big_no A n c w hn).mono ?_
    rintro e wz ⟨rfl, rfl⟩
    go_wp2_with fail
    refine (draw_tune w A n c hn hr).mono ?_
    rintro e w1 ⟨l, hT, A1, c1, rfl, _, _, _, hA1, hrd1, hb1⟩
    have HT := Lib.hid hT
    have hB := hT.1
    have HB := Lib.hid hB
    have hl11 := hT.2.1
    have hr1 := hr.below hb1 rfl
    clear hr hT
    go_wp2_with fail
    refine (impl_StepsUsed A1 c1 l w1 hrd1 (by omega)).mono ?_
    rintro e w2 ⟨rfl, hb2⟩
    rw [stuB_yes HB.out]
    have hrd2 := hrd1.below hb2 rfl
    have hr2 := hr1.below hb2 rfl
    have hB2 := hb1.trans (hb2.mono hb1.size)
    clear hrd1 hr1 hb1 hb2
    go_wp2_with fail
    refine (impl_Scf A1 c1 l w2 hrd2 (by omega)).mono ?_
    rintro e w3 ⟨A3, c3, rfl, _, _, _, _, hrd3, hb3⟩
    have hrd3' := hrd2.below hb3 rfl
    have hr3 := hr2.below hb3 rfl
    have hB3 := hB2.trans (hb3.mono hB2.size)
    clear hrd2 hr2 hB2 hb3
    go_wp2_with fail
    refine (impl_Best A1 c1 l w3 hrd3' (by omega)).mono ?_
    rintro e w4 ⟨rfl, hb4⟩
    obtain ⟨q, hq, hq11, hqm⟩ : ∃ q : Nat, bstB l = (q : Int) ∧ q ≤ 11 ∧ ∀ r : Nat, r < 12 → wroB l (q : Int) ≤ wroB l (r : Int) ∧ (r < q → wroB l (q : Int) < wroB l (r : Int)) :=
      ⟨bstZ l 12, bstB_yes HB.out, bstZ_le l 11, fun r h => bst_min l 12 r h⟩
    have HQ := Lib.hid hqm
    rw [hq]
    clear hq hqm
    have hrd4 := hrd3'.below hb4 rfl
    have hrs4 := hrd3.below hb4 rfl
    have hr4 := hr3.below hb4 rfl
    have hB4 := Lib.hid (hB3.trans (hb4.mono hB3.size))
    have hsc := scfB_len l
    have hq0 : (0 : Int) ≤ (q : Int) := by omega
    have hq1 : (q : Int) ≤ 11 := by omega
    have hs0 : (0 : Int) ≤ ((stU l l.length : Nat) : Int) := by omega
    clear hrd3 hrd3' hr3 hB3 hb4
    go_wp2
    go_loopw [7] (fun i wr => ∃ K : Nat, K ≤ 12 ∧ i = .int .i64 K ∧ Below w4.heap.size w4 wr) (fun i _ => 12 - (intOf i).toNat)
    case atStart => exact ⟨0, by omega, rfl, Below.refl _ _⟩
    case round =>
      obtain ⟨K, hK, rfl, hb⟩ := hrel
      by_cases hlt : K < 12
      · have hlt' : (K : Int) < 12 := by omega
        obtain ⟨hm1, hm2⟩ := HQ.out K hlt
        have HH := Lib.hid (has_wrong HB.out hlt)
        have hm3 : ¬ wroB l (K : Int) < wroB l (q : Int) := by omega
        go_wp2_with fail
        refine (impl_WrongNotes A1 c1 l K wr (hrd4.below hb rfl) (by omega)).mono ?_
        rintro e v1 ⟨rfl, hv1⟩
        have hb1 := hb.trans (hv1.mono hb.size)
        go_wp2_with fail
        refine (impl_WrongNotes A1 c1 l q v1 (hrd4.below hb1 rfl) (by omega)).mono ?_
        rintro e v2 ⟨rfl, hv2⟩
        have hb2 := hb1.trans (hv2.mono hb1.size)
        clear hv1 hv2 hb1
        go_wp2_with fail
        refine (has_any A3 c3 (scfB l) K v2 (hrs4.below hb2 rfl) (by omega)).mono ?_
        rintro e vz ⟨rfl, rfl⟩
        rw [HH.out]
        obtain ⟨bz, hbz⟩ : ∃ bz, bz = (wroB l (K : Int) == 0) := ⟨_, rfl⟩
        rw [← hbz]
        have hbz1 := hbz.symm
        clear hbz
        go_wp2_with fail
        refine (impl_Major K v2).mono ?_
        rintro e v3 ⟨rfl, hv3⟩
        have hb3 := hb2.trans (hv3.mono hb2.size)
        go_wp2_with fail
        refine (impl_Major 0 v3).mono ?_
        rintro e v4 ⟨rfl, hv4⟩
        rw [maj_0]
        have hb4 := hb3.trans (hv4.mono hb3.size)
        go_wp2_with fail
        refine (impl_Rotate 2741 K v4).mono ?_
        rintro e v5 ⟨rfl, hv5⟩
        have hb5 := hb4.trans (hv5.mono hb4.size)
        clear hv3 hv4 hv5 hb2 hb3 hb4
        by_cases hlq : K < q
        · have hlq' : (K : Int) < (q : Int) := by omega
          have hm4 := hm2 hlq
          have hm5 : (wroB l (K : Int) == wroB l (q : Int)) = false := beq_eq_false_iff_ne.2 (by omega)
          go_wp2_with fail
          refine (impl_WrongNotes A1 c1 l q v5 (hrd4.below hb5 rfl) (by omega)).mono ?_
          rintro e v6 ⟨rfl, hv6⟩
          have hb6 := hb5.trans (hv6.mono hb5.size)
          cases bz
          · go_wp2
            go_roundw
            case rel => exact ⟨K + 1, by omega, by go_num, hb6⟩
            case measure => simp [intOf]; omega
          · go_wp2
            go_roundw
            case rel => exact ⟨K + 1, by omega, by go_num, hb6⟩
            case measure => simp [intOf]; omega
        · have hlq' : ¬ (K : Int) < (q : Int) := by omega
          cases bz
          · go_wp2
            go_roundw
            case rel => exact ⟨K + 1, by omega, by go_num, hb5⟩
            case measure => simp [intOf]; omega
          · go_wp2
            go_roundw
            case rel => exact ⟨K + 1, by omega, by go_num, hb5⟩
            case measure => simp [intOf]; omega
      · have hlt' : ¬ (K : Int) < 12 := by omega
        have HX := Lib.hid (hig_two HT.out)
        go_wp2_with fail
        refine (spec_Higher A1 c1 l 2 wr (hrd4.below hb rfl) (by omega) hA1).mono ?_
        rintro e v1 ⟨A5, c5, rfl, _, _, _, _, hrd5, hv1⟩
        rw [HX.out.1, HX.out.2.1] at *
        have hb1 := hb.trans (hv1.mono hb.size)
        have hr5 := hr4.below hb1 rfl
        have hrd6 := hrd5.below (Below.refl v1.heap.size v1) rfl
        have hrt := hrd4.below hb1 rfl
        clear hv1 hb hrd5 hrd4 hr4 hrs4
        go_wp2_with fail
        refine (at_any A n c v1 0 _ hn hr5 (by omega)).mono ?_
        rintro e vz ⟨x0, hx00, hx01, rfl, rfl⟩
        have hwx : wrap64 (x0 * 16) = x0 * 16 := by unfold wrap64; omega
        go_wp2_with fail
        refine (at_any A n c v1 1 _ hn hr5 (by omega)).mono ?_
        rintro e vz ⟨x1, hx10, hx11, rfl, rfl⟩
        have hwx1 : wrap64 (x0 * 16 + x1 % 16) = x0 * 16 + x1 % 16 := by unfold wrap64; omega
        go_wp2_with fail
        refine (at_any A n c v1 2 _ hn hr5 (by omega)).mono ?_
        rintro e vz ⟨x2, hx20, hx21, rfl, rfl⟩
        go_wp2_with fail
        obtain ⟨X, hX⟩ : ∃ X, X = x0 * 16 + x1 % 16 := ⟨_, rfl⟩
        obtain ⟨Y, hY⟩ : ∃ Y, Y = x2 % 12 := ⟨_, rfl⟩
        have hX0 : 0 ≤ X ∧ X ≤ 4095 := by omega
        have hY0 : 0 ≤ Y ∧ Y ≤ 11 := by omega
        rw [← hX, ← hY]
        clear hX hY hwx hwx1 hx00 hx01 hx10 hx11 hx20 hx21
        obtain ⟨g1, g2, g3, g4, g5, g6, g7⟩ := rot_law hX0 hY0
        have HG1 := Lib.hid g1
        have HG5 := Lib.hid g5
        clear g1 g5
        obtain ⟨hY1, hY2⟩ := hY0
        refine (impl_Rotate X Y v1).mono ?_
        rintro e v2 ⟨rfl, hv2⟩
        have hb2 := hb1.trans (hv2.mono hb1.size)
        go_wp2_with fail
        refine (impl_Sym X v2).mono ?_
        rintro e v3 ⟨rfl, hv3⟩
        have hb3 := hb2.trans (hv3.mono hb2.size)
        have hrt3 := (hrt.below hv2 rfl).below hv3 rfl
        have hrd7 := (hrd6.below hv2 rfl).below hv3 rfl
        clear hrt hrd6 hv2 hv3 hb1 hb2
        go_wp2
        go_loop [15] (fun i => ∃ K : Nat, K ≤ l.length ∧ i = .int .i64 K) (fun i => l.length - (intOf i).toNat)
        case atStart => exact ⟨0, by omega, rfl⟩
        case round =>
          obtain ⟨k, hk, rfl⟩ := hrel
          by_cases hkl : k < l.length
          · obtain ⟨b, o, rfl, lb, hcl⟩ := hrt3 (by omega)
            have k1 := (hcl k hkl).2
            have h0i : (0 : Int) ≤ (k : Int) := by omega
            have h0j : (k : Int) < (l.length : Int) := by omega
            have hp0 := (pt_rng HB.out hkl).1
            have hbt := steps_bit HB.out hkl
            rw [Nat.min_eq_left (by omega), show (pt l k).toNat % 12 = (pt l k % 12).toNat by omega] at hbt
            have hbt1 : (bits BinOp.and IntKind.i64 ((stU l l.length : Int) / 2 ^ (pt l k % 12).toNat) 1 != 1) = false := by rw [hbt]; rfl
            clear hbt
            clear hcl
            go_wp2
            all_goals exact ⟨⟨k + 1, by omega, by go_num⟩, by simp [intOf]; omega⟩
          · have hkl' : ¬ (k : Int) < (l.length : Int) := by omega
            go_wp2_with fail
            refine (impl_StepsUsed A5 c5 (higL l 2) v3 hrd7 (by rw [higL_len]; omega)).mono ?_
            rintro e v4 ⟨rfl, hv4⟩
            rw [stuB_yes HX.out.2.2, steps_up HB.out _ (Nat.le_of_eq (higL_len l 2)), higL_len]
            have hb4 := hb3.trans (hv4.mono hb3.size)
            go_wp2_with fail
            refine (impl_Rotate _ 2 v4).mono ?_
            rintro e v5 ⟨rfl, hv5⟩
            rw [show rotZ ((stU l l.length : Nat) : Int) 2 = ((rotN (stU l l.length) 2 : Nat) : Int) from rotZ_nat (b := 2) (stU_lt l _) (by decide)]
            have hb5 := hb4.trans (hv5.mono hb4.size)
            clear hv4 hv5 hb3 hb4
            go_wp2_with fail
            refine (impl_Rotate _ _ v5).mono ?_
            rintro e v6 ⟨rfl, hv6⟩
            rw [show -Y % 12 = (12 - Y) % 12 by omega, HG1.out]
            have hb6 := hb5.trans (hv6.mono hb5.size)
            go_wp2_with fail
            refine (impl_Sym _ v6).mono ?_
            rintro e v7 ⟨rfl, hv7⟩
            rw [← HG5.out]
            have hb7 := hb6.trans (hv7.mono hb6.size)
            go_wp2_with fail
            refine (impl_Sym 1365 v7).mono ?_
            rintro e v8 ⟨rfl, hv8⟩
            rw [sym_1365]
            have hb8 := hb7.trans (hv8.mono hb7.size)
            go_wp2_with fail
            refine (impl_Major 12 v8).mono ?_
            rintro e v9 ⟨rfl, hv9⟩
            rw [maj_12]
            have hb9 := Lib.hid (hB4.out.trans ((hb8.trans (hv9.mono hb8.size)).mono hB4.out.size))
            clear hv6 hv7 hv8 hv9 hb5 hb6 hb7 hb8
            go_wp2
            go_ret
            exact ⟨rfl, hb9.out⟩
  · go_enter Try.func14, Try.ntmps14
    go_wp2_with fail
    refine (big_yes A n c w hn).mono ?_
    rintro e wz ⟨rfl, rfl⟩
    go_wp2
    go_ret
    exact ⟨rfl, Below.refl _ _⟩
end Go.Proofs.Ytjfaodbjmanfnaa
