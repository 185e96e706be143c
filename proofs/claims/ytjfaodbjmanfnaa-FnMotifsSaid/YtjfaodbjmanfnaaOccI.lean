/- Whether a motif occurs in a tune at a place: the program's own; and both functions for all arguments. -/
import Derived.Test.YtjfaodbjmanfnaaOcc
namespace Go.Proofs.Ytjfaodbjmanfnaa
open Go.ChangeShapes Go.WideShapes Go.ChangeAt Go.RowKit
set_option linter.unusedVariables false
attribute [local irreducible] tm pt hasN tuneB in
set_option maxHeartbeats 1600000 in
theorem impl_Occ_ok (A B : Option Addr) (c d : Nat) (t m : List (Int × Int)) (k : Nat) (w : World) (hra : RdN w A t) (hrb : RdN w B m) (hla : t.length ≤ 100000) (hlb : m.length ≤ 100000) (hA : tuneB t = true) (hB : tuneB m = true) (h0 : 0 < m.length) (hk : k < t.length) :
    Calls Try.prog 23 #[.slice A t.length c, .slice B m.length d, .int .i64 k] w fun e w' => e = .returned (.bool (decide (occP t m k))) ∧ Below w.heap.size w w' := by
  have HT := Lib.hid (fun j (hj : j < t.length) => And.intro (tm_rng hA hj) (pt_rng hA hj))
  have HU := Lib.hid (fun j (hj : j < m.length) => And.intro (tm_rng hB hj) (pt_rng hB hj))
  have HA := Lib.hid hA
  have HB := Lib.hid hB
  clear hA hB
  have hk1 : ¬ (k : Int) < 0 := by omega
  have hk6 : ¬ (t.length : Int) ≤ (k : Int) := by omega
  have hk7 : decide ((k : Int) < 0) = false := decide_eq_false (by omega)
  have hk8 : decide (t.length ≤ k) = false := decide_eq_false (by omega)
  have hk2 : ((m.length : Int) == 0) = false := by rw [beq_eq_false_iff_ne]; omega
  have hk5 : ¬ m = [] := by intro h; rw [h] at h0; simp at h0
  have hk3 : (k : Int) < (t.length : Int) := by omega
  have hk4 : (0 : Int) ≤ (k : Int) := by omega
  go_enter Try.func23, Try.ntmps23
  go_wp2_with fail
  refine (impl_TuneOk _ _ _ _ hra (by omega)).mono ?_
  rintro e w1 ⟨rfl, hb1⟩
  rw [HA.out]
  go_wp2_with fail
  refine (impl_TuneOk _ _ _ _ (hrb.below hb1 rfl) (by omega)).mono ?_
  rintro e w2 ⟨rfl, hb2⟩
  rw [HB.out]
  have hb02 := hb1.trans (hb2.mono hb1.size)
  have ra := hra.below hb02 rfl
  have rb := hrb.below hb02 rfl
  clear hra hrb hb1 hb2
  go_wp2_with fail
  go_loopw [35] (fun q wr => ∃ i : Nat, i ≤ m.length ∧ q = .int .i64 i ∧ (∀ j, j < i → occAt t m k j) ∧ Below w2.heap.size w2 wr) (fun q _ => m.length - (intOf q).toNat)
  case atStart => exact ⟨0, by omega, rfl, fun _ h => by omega, Below.refl _ _⟩
  case round =>
    obtain ⟨i, hi, rfl, hM, hb⟩ := hrel
    have HM := Lib.hid hM
    clear hM
    by_cases hlt : i < m.length
    · obtain ⟨b1, o1, rfl, l1, c1⟩ := ra (by omega)
      obtain ⟨b2, o2, rfl, l2, c2⟩ := rb (by omega)
      have k1 := (hb.cell (p := ⟨b2, o2 + i * 2, none⟩) l2).trans (c2 i hlt).1
      have k2 := (hb.cell (p := ⟨b2, o2 + i * 2 + 1, none⟩) l2).trans (c2 i hlt).2
      have k3 := (hb.cell (p := ⟨b2, o2, none⟩) l2).trans (by simpa using (c2 0 h0).1)
      have k4 := (hb.cell (p := ⟨b2, o2 + 1, none⟩) l2).trans (by simpa using (c2 0 h0).2)
      have k5 := (hb.cell (p := ⟨b1, o1 + k * 2, none⟩) l1).trans (c1 k hk).1
      have k6 := (hb.cell (p := ⟨b1, o1 + k * 2 + 1, none⟩) l1).trans (c1 k hk).2
      have g1 := HU.out i hlt
      have g2 := HU.out 0 h0
      have g3 := HT.out k hk
      have h0a : (0 : Int) ≤ (i : Int) := by omega
      have h0b : (i : Int) < (m.length : Int) := by omega
      have h0c : (0 : Int) < (m.length : Int) := by omega
      have W1 := Lib.hid (show IntKind.i64.wrap (tm m i - tm m 0) = tm m i - tm m 0 from IntWalk.i64_in _ (by omega))
      have W2 := Lib.hid (show IntKind.i64.wrap (pt m i - pt m 0) = pt m i - pt m 0 from IntWalk.i64_in _ (by omega))
      have W3 := Lib.hid (show IntKind.i64.wrap (tm m i - tm m 0 + tm t k) = tm m i - tm m 0 + tm t k from IntWalk.i64_in _ (by omega))
      have W4 := Lib.hid (show IntKind.i64.wrap (pt m i - pt m 0 + pt t k) = pt m i - pt m 0 + pt t k from IntWalk.i64_in _ (by omega))
      have HC1 := Lib.hid c1
      obtain ⟨V, hV⟩ : ∃ V, V = wr.alloc (Obj.cells #[.int .i64 (tm m i), .int .i64 (pt m i)] 39) := ⟨_, rfl⟩
      have hBV : Below wr.heap.size wr V := by rw [hV]; exact (Below.refl _ _).alloc (Nat.le_refl _) _
      have n1 : V.cell? ⟨wr.heap.size, 0, none⟩ = some (.int .i64 (tm m i)) := by rw [hV]; simp [go_sem]
      have n2 : V.cell? ⟨wr.heap.size, 1, none⟩ = some (.int .i64 (pt m i)) := by rw [hV]; simp [go_sem]
      have nV : wr.heap.size < V.heap.size := by rw [hV]; simp
      have m3 := (hBV.cell (p := ⟨b2, o2, none⟩) (Nat.lt_of_lt_of_le l2 hb.size)).trans k3
      have m4 := (hBV.cell (p := ⟨b2, o2 + 1, none⟩) (Nat.lt_of_lt_of_le l2 hb.size)).trans k4
      have m5 := (hBV.cell (p := ⟨b1, o1 + k * 2, none⟩) (Nat.lt_of_lt_of_le l1 hb.size)).trans k5
      have m6 := (hBV.cell (p := ⟨b1, o1 + k * 2 + 1, none⟩) (Nat.lt_of_lt_of_le l1 hb.size)).trans k6
      have hb3 := hb.trans (hBV.mono hb.size)
      have raV := (show RdN w2 (some ⟨b1, o1, none⟩) t from ra).below hb3 rfl
      have HV := Lib.hid hV
      clear c1 c2 hV hBV k3 k4 k5 k6
      go_wp2_with fail
      rw [← HV.out]
      have v1 := W1.out
      have v2 := W2.out
      have v3 := W3.out
      have v4 := W4.out
      go_region_held3 (fun w' => w'.cell? ⟨wr.heap.size, 0, none⟩ = some (.int .i64 (tm m i)) ∧ w'.cell? ⟨wr.heap.size, 1, none⟩ = some (.int .i64 (pt m i)) ∧ w'.cell? ⟨b2, o2, none⟩ = some (.int .i64 (tm m 0)) ∧ w'.cell? ⟨b2, o2 + 1, none⟩ = some (.int .i64 (pt m 0)) ∧ w'.cell? ⟨b1, o1 + k * 2, none⟩ = some (.int .i64 (tm t k)) ∧ w'.cell? ⟨b1, o1 + k * 2 + 1, none⟩ = some (.int .i64 (pt t k)))
        (first | exact ⟨n1, n2, m3, m4, m5, m6⟩ | go_keep)
        (first | fail)
      clear v1 v2 v3 v4
      obtain ⟨X, hX⟩ : ∃ X, X = tm m i - tm m 0 + tm t k := ⟨_, rfl⟩
      obtain ⟨Y, hY⟩ : ∃ Y, Y = pt m i - pt m 0 + pt t k := ⟨_, rfl⟩
      obtain ⟨U, hU⟩ : ∃ U, U = (V.alloc (Obj.cells #[.int .i64 (tm m i - tm m 0 + tm t k), .int .i64 (pt m i - pt m 0 + pt t k)] 39)).drew := ⟨_, rfl⟩
      have hBU : Below V.heap.size V U := by rw [hU]; exact ((Below.refl _ _).alloc (Nat.le_refl _) _).drew
      have hb4 := hb3.trans (hBU.mono hb3.size)
      have raU := raV.below hBU rfl
      have HU2 := Lib.hid hU
      have HX := Lib.hid hX
      have HY := Lib.hid hY
      clear hU hX hY n1 n2 m3 m4 m5 m6 g1 g2 g3 hBU raV
      go_wp2_with fail
      rw [← HU2.out, ← HX.out, ← HY.out]
      refine (hasNote_any _ _ _ _ _ _ raU (by omega)).mono ?_
      rintro e wz ⟨rfl, hbz⟩
      have hb5 := hb4.trans (hbz.mono hb4.size)
      cases hH : hasN t X Y t.length
      · have HF := Lib.hid (occ_no (t := t) (k := k) hlt (by unfold mvT mvP; rw [← HX.out, ← HY.out]; exact hH))
        clear hH
        go_wp2
        go_ret
        exact ⟨ret_bool HF.out.symm, hb02.trans (hb5.mono hb02.size)⟩
      · have HG := Lib.hid (show occAt t m k i by unfold occAt mvT mvP; rw [← HX.out, ← HY.out]; exact hH)
        clear hH
        go_wp2
        go_roundw
        case rel => exact ⟨i + 1, by omega, by go_num, to_succ3 HM.out HG.out, hb5⟩
        case measure => simp [intOf]; omega
    · obtain rfl : i = m.length := by omega
      have HF := Lib.hid (show decide (occP t m k) = true from decide_eq_true HM.out)
      go_wp2
      go_ret
      exact ⟨ret_bool HF.out.symm, hb02.trans (hb.mono hb02.size)⟩
theorem tuneL {l : List (Int × Int)} (h : tuneB l = true) : l.length ≤ 40 := (of_decide_eq_true h : tuneP l).2
set_option maxHeartbeats 800000 in
theorem impl_Occ (A B : Option Addr) (c d : Nat) (t m : List (Int × Int)) (k : Int) (w : World) (hra : RdN w A t) (hrb : RdN w B m) (hla : t.length ≤ 1000000000) (hlb : m.length ≤ 1000000000) :
    Calls Try.prog 23 #[.slice A t.length c, .slice B m.length d, .int .i64 k] w fun e w' => e = .returned (.bool (occB t m k)) ∧ Below w.heap.size w w' := by
  by_cases hok : occOk t m k
  · obtain ⟨j, rfl⟩ := Int.eq_ofNat_of_zero_le hok.2.2.2.1
    rw [occB_at hok]
    have h1 := tuneL hok.1
    have h2 := tuneL hok.2.1
    exact impl_Occ_ok A B c d t m j w hra hrb (by omega) (by omega) hok.1 hok.2.1 hok.2.2.1 (by have := hok.2.2.2.2; omega)
  · have HV := Lib.hid (occB_no hok)
    cases hA : tuneB t
    · have HA := Lib.hid hA
      clear hA hok
      go_enter Try.func23, Try.ntmps23
      go_wp2_with fail
      refine (impl_TuneOk _ _ _ _ hra (by omega)).mono ?_
      rintro e w1 ⟨rfl, hb1⟩
      rw [HA.out]
      go_wp2
      go_ret
      exact ⟨ret_bool HV.out.symm, hb1⟩
    · cases hB : tuneB m
      · have HA := Lib.hid hA
        have HB := Lib.hid hB
        clear hA hB hok
        go_enter Try.func23, Try.ntmps23
        go_wp2_with fail
        refine (impl_TuneOk _ _ _ _ hra (by omega)).mono ?_
        rintro e w1 ⟨rfl, hb1⟩
        rw [HA.out]
        go_wp2_with fail
        refine (impl_TuneOk _ _ _ _ (hrb.below hb1 rfl) (by omega)).mono ?_
        rintro e w2 ⟨rfl, hb2⟩
        rw [HB.out]
        go_wp2
        go_ret
        exact ⟨ret_bool HV.out.symm, hb1.trans (hb2.mono hb1.size)⟩
      · have hno : ¬ (0 < m.length ∧ 0 ≤ k ∧ k < (t.length : Int)) := fun h => hok ⟨hA, hB, h.1, h.2.1, h.2.2⟩
        have HA := Lib.hid hA
        have HB := Lib.hid hB
        clear hA hB hok
        by_cases hm : m = []
        · have HM := Lib.hid hm
          subst hm
          clear hno
          go_enter Try.func23, Try.ntmps23
          go_wp2_with fail
          refine (impl_TuneOk _ _ _ _ hra (by omega)).mono ?_
          rintro e w1 ⟨rfl, hb1⟩
          rw [HA.out]
          go_wp2_with fail
          refine (impl_TuneOk _ _ [] _ (hrb.below hb1 rfl) (by simp)).mono ?_
          rintro e w2 ⟨rfl, hb2⟩
          rw [HB.out]
          go_wp2
          go_ret
          exact ⟨ret_bool HV.out.symm, hb1.trans (hb2.mono hb1.size)⟩
        · have h0 : 0 < m.length := List.length_pos_iff.2 hm
          have hk2 : ((m.length : Int) == 0) = false := by rw [beq_eq_false_iff_ne]; omega
          have hno2 : ¬ (0 ≤ k ∧ k ≤ (t.length : Int) - 1) := fun h => hno ⟨h0, h.1, by omega⟩
          clear hno
          by_cases hk0 : 0 ≤ k
          · have hkt : (t.length : Int) ≤ k := by omega
            have hk3 : ¬ k < 0 := by omega
            go_enter Try.func23, Try.ntmps23
            go_wp2_with fail
            refine (impl_TuneOk _ _ _ _ hra (by omega)).mono ?_
            rintro e w1 ⟨rfl, hb1⟩
            rw [HA.out]
            go_wp2_with fail
            refine (impl_TuneOk _ _ _ _ (hrb.below hb1 rfl) (by omega)).mono ?_
            rintro e w2 ⟨rfl, hb2⟩
            rw [HB.out]
            go_wp2_with fail
            go_ret
            exact ⟨ret_bool HV.out.symm, hb1.trans (hb2.mono hb1.size)⟩
          · have hk3 : k < 0 := by omega
            go_enter Try.func23, Try.ntmps23
            go_wp2_with fail
            refine (impl_TuneOk _ _ _ _ hra (by omega)).mono ?_
            rintro e w1 ⟨rfl, hb1⟩
            rw [HA.out]
            go_wp2_with fail
            refine (impl_TuneOk _ _ _ _ (hrb.below hb1 rfl) (by omega)).mono ?_
            rintro e w2 ⟨rfl, hb2⟩
            rw [HB.out]
            go_wp2_with fail
            go_ret
            exact ⟨ret_bool HV.out.symm, hb1.trans (hb2.mono hb1.size)⟩
set_option maxHeartbeats 800000 in
theorem spec_Occ (A B : Option Addr) (c d : Nat) (t m : List (Int × Int)) (k : Int) (w : World) (hra : RdN w A t) (hrb : RdN w B m) (hla : t.length ≤ 1000000000) (hlb : m.length ≤ 1000000000) :
    Calls Try.prog 89 #[.slice A t.length c, .slice B m.length d, .int .i64 k] w fun e w' => e = .returned (.bool (occB t m k)) ∧ Below w.heap.size w w' := by
  by_cases hok : occOk t m k
  · obtain ⟨j, rfl⟩ := Int.eq_ofNat_of_zero_le hok.2.2.2.1
    rw [occB_at hok]
    have h1 := tuneL hok.1
    have h2 := tuneL hok.2.1
    exact spec_Occ_ok A B c d t m j w hra hrb (by omega) (by omega) hok.1 hok.2.1 hok.2.2.1 (by have := hok.2.2.2.2; omega)
  · have HV := Lib.hid (occB_no hok)
    cases hA : tuneB t
    · have HA := Lib.hid hA
      clear hA hok
      go_enter Try.func89, Try.ntmps89
      go_wp2_with fail
      refine (spec_TuneOk _ _ _ _ hra (by omega)).mono ?_
      rintro e w1 ⟨rfl, hb1⟩
      rw [HA.out]
      go_wp2
      go_ret
      exact ⟨ret_bool HV.out.symm, hb1⟩
    · cases hB : tuneB m
      · have HA := Lib.hid hA
        have HB := Lib.hid hB
        clear hA hB hok
        go_enter Try.func89, Try.ntmps89
        go_wp2_with fail
        refine (spec_TuneOk _ _ _ _ hra (by omega)).mono ?_
        rintro e w1 ⟨rfl, hb1⟩
        rw [HA.out]
        go_wp2_with fail
        refine (spec_TuneOk _ _ _ _ (hrb.below hb1 rfl) (by omega)).mono ?_
        rintro e w2 ⟨rfl, hb2⟩
        rw [HB.out]
        go_wp2
        go_ret
        exact ⟨ret_bool HV.out.symm, hb1.trans (hb2.mono hb1.size)⟩
      · have hno : ¬ (0 < m.length ∧ 0 ≤ k ∧ k < (t.length : Int)) := fun h => hok ⟨hA, hB, h.1, h.2.1, h.2.2⟩
        have HA := Lib.hid hA
        have HB := Lib.hid hB
        clear hA hB hok
        by_cases hm : m = []
        · have HM := Lib.hid hm
          subst hm
          clear hno
          go_enter Try.func89, Try.ntmps89
          go_wp2_with fail
          refine (spec_TuneOk _ _ _ _ hra (by omega)).mono ?_
          rintro e w1 ⟨rfl, hb1⟩
          rw [HA.out]
          go_wp2_with fail
          refine (spec_TuneOk _ _ [] _ (hrb.below hb1 rfl) (by simp)).mono ?_
          rintro e w2 ⟨rfl, hb2⟩
          rw [HB.out]
          go_wp2
          go_ret
          exact ⟨ret_bool HV.out.symm, hb1.trans (hb2.mono hb1.size)⟩
        · have h0 : 0 < m.length := List.length_pos_iff.2 hm
          have hk2 : ((m.length : Int) == 0) = false := by rw [beq_eq_false_iff_ne]; omega
          have hno2 : ¬ (0 ≤ k ∧ k ≤ (t.length : Int) - 1) := fun h => hno ⟨h0, h.1, by omega⟩
          clear hno
          by_cases hk0 : 0 ≤ k
          · have hkt : (t.length : Int) ≤ k := by omega
            have hk3 : ¬ k < 0 := by omega
            go_enter Try.func89, Try.ntmps89
            go_wp2_with fail
            refine (spec_TuneOk _ _ _ _ hra (by omega)).mono ?_
            rintro e w1 ⟨rfl, hb1⟩
            rw [HA.out]
            go_wp2_with fail
            refine (spec_TuneOk _ _ _ _ (hrb.below hb1 rfl) (by omega)).mono ?_
            rintro e w2 ⟨rfl, hb2⟩
            rw [HB.out]
            go_wp2_with (go_at_call 76; refine (in_no _ _ _ _ hno2).mono ?_; rintro e wz ⟨rfl, rfl⟩)
            go_ret
            exact ⟨ret_bool HV.out.symm, hb1.trans (hb2.mono hb1.size)⟩
          · have hk3 : k < 0 := by omega
            go_enter Try.func89, Try.ntmps89
            go_wp2_with fail
            refine (spec_TuneOk _ _ _ _ hra (by omega)).mono ?_
            rintro e w1 ⟨rfl, hb1⟩
            rw [HA.out]
            go_wp2_with fail
            refine (spec_TuneOk _ _ _ _ (hrb.below hb1 rfl) (by omega)).mono ?_
            rintro e w2 ⟨rfl, hb2⟩
            rw [HB.out]
            go_wp2_with (go_at_call 76; refine (in_no _ _ _ _ hno2).mono ?_; rintro e wz ⟨rfl, rfl⟩)
            go_ret
            exact ⟨ret_bool HV.out.symm, hb1.trans (hb2.mono hb1.size)⟩
end Go.Proofs.Ytjfaodbjmanfnaa
