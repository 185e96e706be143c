/- BestRound: the program and the reference. -/
import Derived.Test.YtajlopigpppeaaaRnd
namespace Go.Proofs.Ytajlopigpppeaaa
open Go.ChangeShapes Go.WideShapes Go.ChangeAt Go.RowKit
set_option linter.unusedVariables false
attribute [local irreducible] tm pt tuneB rndZ brnA brnC brnZ in
set_option maxHeartbeats 1600000 in
theorem impl_Brn (A : Option Addr) (c : Nat) (l : List (Int × Int)) (m : Int) (w : World) (hrd : RdN w A l) (hl : l.length ≤ 1000000000) (hA : A = none → c = 0) :
    Calls Try.prog 26 #[.slice A l.length c, .int .i64 m] w fun e w' => e = .returned (.int .i64 (brnZ l m)) ∧ Below w.heap.size w w' := by
  cases hB : tuneB l
  · have HV := Lib.hid (brnZ_no (l := l) (m := m) (by rw [hB]; simp))
    have HB := Lib.hid hB
    clear hB
    go_enter Try.func26, Try.ntmps26
    go_wp2_with fail
    refine (impl_TuneOk _ _ _ _ hrd (by omega)).mono ?_
    rintro e w1 ⟨rfl, hb1⟩
    rw [HB.out]
    go_wp2
    go_ret
    exact ⟨ret_int HV.out.symm, hb1⟩
  · by_cases hm : 1 ≤ m ∧ m ≤ 100
    · have HV := Lib.hid (brnZ_yes ⟨hB, hm⟩)
      have HB := Lib.hid hB
      obtain ⟨n, hn⟩ : ∃ n : Nat, m = (n : Int) := ⟨m.toNat, by omega⟩
      subst hn
      have HR := Lib.hid (fun k => rnd_bd l k)
      have HD := Lib.hid (brn_bd l)
      have HZ := Lib.hid (brn_zero l)
      have HN := Lib.hid hm
      have hn1 : 1 ≤ n := by omega
      have hn2 : n ≤ 100 := by omega
      have HW := Lib.hid (show ((n : Int).toNat) = n by omega)
      clear hB hm
      go_enter Try.func26, Try.ntmps26
      go_wp2_with fail
      refine (impl_TuneOk _ _ _ _ hrd (by omega)).mono ?_
      rintro e w1 ⟨rfl, hb1⟩
      rw [HB.out]
      have hmm := HN.out
      go_wp2_with (first | (go_at_call 61; refine (wi_yes _ _ _ _ ?_).mono ?_; omega; rintro e w1 ⟨rfl, rfl⟩) | (go_at_call 61; refine (wi_no _ _ _ _ ?_).mono ?_; omega; rintro e w1 ⟨rfl, rfl⟩))
      go_loopw [5, 6, 7] (fun u v i wr => ∃ k : Nat, k ≤ n ∧ u = .int .i64 (brnA l k) ∧ v = .int .i64 (brnC l k) ∧ i = .int .i64 ((k : Int) + 1) ∧ Below w.heap.size w wr) (fun _ _ i _ => n + 1 - (intOf i).toNat)
      case atStart => exact ⟨0, by omega, by rw [HZ.out.1], by rw [HZ.out.2], rfl, hb1⟩
      case round =>
        obtain ⟨k, hk, rfl, rfl, rfl, hb⟩ := hrel
        by_cases hlt : k < n
        · have hr := HR.out ((k : Int) + 1)
          have hd := HD.out k
          have HY := Lib.hid (fun h => brn_yes (l := l) (k := k) h)
          have HX := Lib.hid (fun h => brn_no (l := l) (k := k) h)
          have hkn : (k : Int) + 1 ≤ (n : Int) := by omega
          go_wp2_with fail
          refine (impl_Rnd _ _ _ _ _ (hrd.below hb rfl) hl hA).mono ?_
          rintro e w2 ⟨rfl, hb2⟩
          have hb02 := hb.trans (hb2.mono hb.size)
          by_cases h0 : 0 ≤ rndZ l ((k : Int) + 1)
          · by_cases h1 : brnA l k < 0
            · have HE := Lib.hid (HY.out ⟨h0, Or.inl h1⟩)
              go_wp2
              go_roundw
              case rel => exact ⟨k + 1, by omega, by rw [HE.out.1], by rw [HE.out.2], by go_num, hb02⟩
              case measure => simp [intOf]; omega
            · by_cases h2 : rndZ l ((k : Int) + 1) < brnC l k
              · have HE := Lib.hid (HY.out ⟨h0, Or.inr h2⟩)
                go_wp2
                go_roundw
                case rel => exact ⟨k + 1, by omega, by rw [HE.out.1], by rw [HE.out.2], by go_num, hb02⟩
                case measure => simp [intOf]; omega
              · have HE := Lib.hid (HX.out (fun h => h.2.elim h1 h2))
                go_wp2
                go_roundw
                case rel => exact ⟨k + 1, by omega, by rw [HE.out.1], by rw [HE.out.2], by go_num, hb02⟩
                case measure => simp [intOf]; omega
          · have HE := Lib.hid (HX.out (fun h => h0 h.1))
            go_wp2
            go_roundw
            case rel => exact ⟨k + 1, by omega, by rw [HE.out.1], by rw [HE.out.2], by go_num, hb02⟩
            case measure => simp [intOf]; omega
        · obtain rfl : k = n := by omega
          have hkn : ¬ (k : Int) + 1 ≤ (k : Int) := by omega
          go_wp2
          go_ret
          exact ⟨ret_int (by rw [HV.out, HW.out]), hb⟩
    · have HV := Lib.hid (brnZ_no (l := l) (m := m) (fun h => hm h.2))
      have HB := Lib.hid hB
      have HN := Lib.hid hm
      clear hB hm
      go_enter Try.func26, Try.ntmps26
      go_wp2_with fail
      refine (impl_TuneOk _ _ _ _ hrd (by omega)).mono ?_
      rintro e w1 ⟨rfl, hb1⟩
      rw [HB.out]
      have hmm := HN.out
      go_wp2_with (first | (go_at_call 61; refine (wi_yes _ _ _ _ ?_).mono ?_; omega; rintro e w1 ⟨rfl, rfl⟩) | (go_at_call 61; refine (wi_no _ _ _ _ ?_).mono ?_; omega; rintro e w1 ⟨rfl, rfl⟩))
      go_ret
      exact ⟨ret_int HV.out.symm, hb1⟩
attribute [local irreducible] tm pt tuneB rndZ brnA brnC brnZ in
set_option maxHeartbeats 1600000 in
theorem spec_Brn (A : Option Addr) (c : Nat) (l : List (Int × Int)) (m : Int) (w : World) (hrd : RdN w A l) (hl : l.length ≤ 1000000000) (hA : A = none → c = 0) :
    Calls Try.prog 40 #[.slice A l.length c, .int .i64 m] w fun e w' => e = .returned (.int .i64 (brnZ l m)) ∧ Below w.heap.size w w' := by
  cases hB : tuneB l
  · have HV := Lib.hid (brnZ_no (l := l) (m := m) (by rw [hB]; simp))
    have HB := Lib.hid hB
    clear hB
    go_enter Try.func40, Try.ntmps40
    go_wp2_with fail
    refine (spec_TuneOk _ _ _ _ hrd (by omega)).mono ?_
    rintro e w1 ⟨rfl, hb1⟩
    rw [HB.out]
    go_wp2
    go_ret
    exact ⟨ret_int HV.out.symm, hb1⟩
  · by_cases hm : 1 ≤ m ∧ m ≤ 100
    · have HV := Lib.hid (brnZ_yes ⟨hB, hm⟩)
      have HB := Lib.hid hB
      obtain ⟨n, hn⟩ : ∃ n : Nat, m = (n : Int) := ⟨m.toNat, by omega⟩
      subst hn
      have HR := Lib.hid (fun k => rnd_bd l k)
      have HD := Lib.hid (brn_bd l)
      have HZ := Lib.hid (brn_zero l)
      have HN := Lib.hid hm
      have hn1 : 1 ≤ n := by omega
      have hn2 : n ≤ 100 := by omega
      have HW := Lib.hid (show ((n : Int).toNat) = n by omega)
      clear hB hm
      go_enter Try.func40, Try.ntmps40
      go_wp2_with fail
      refine (spec_TuneOk _ _ _ _ hrd (by omega)).mono ?_
      rintro e w1 ⟨rfl, hb1⟩
      rw [HB.out]
      have hmm := HN.out
      go_wp2_with (first | (go_at_call 58; refine (in_yes _ _ _ _ ?_).mono ?_; omega; rintro e w1 ⟨rfl, rfl⟩) | (go_at_call 58; refine (in_no _ _ _ _ ?_).mono ?_; omega; rintro e w1 ⟨rfl, rfl⟩))
      go_loopw [5, 6, 7] (fun u v i wr => ∃ k : Nat, k ≤ n ∧ u = .int .i64 (brnA l k) ∧ v = .int .i64 (brnC l k) ∧ i = .int .i64 ((k : Int) + 1) ∧ Below w.heap.size w wr) (fun _ _ i _ => n + 1 - (intOf i).toNat)
      case atStart => exact ⟨0, by omega, by rw [HZ.out.1], by rw [HZ.out.2], rfl, hb1⟩
      case round =>
        obtain ⟨k, hk, rfl, rfl, rfl, hb⟩ := hrel
        by_cases hlt : k < n
        · have hr := HR.out ((k : Int) + 1)
          have hd := HD.out k
          have HY := Lib.hid (fun h => brn_yes (l := l) (k := k) h)
          have HX := Lib.hid (fun h => brn_no (l := l) (k := k) h)
          have hkn : (k : Int) + 1 ≤ (n : Int) := by omega
          go_wp2_with fail
          refine (spec_Rnd _ _ _ _ _ (hrd.below hb rfl) hl hA).mono ?_
          rintro e w2 ⟨rfl, hb2⟩
          have hb02 := hb.trans (hb2.mono hb.size)
          by_cases h0 : 0 ≤ rndZ l ((k : Int) + 1)
          · by_cases h1 : brnA l k < 0
            · have HE := Lib.hid (HY.out ⟨h0, Or.inl h1⟩)
              go_wp2
              go_roundw
              case rel => exact ⟨k + 1, by omega, by rw [HE.out.1], by rw [HE.out.2], by go_num, hb02⟩
              case measure => simp [intOf]; omega
            · by_cases h2 : rndZ l ((k : Int) + 1) < brnC l k
              · have HE := Lib.hid (HY.out ⟨h0, Or.inr h2⟩)
                go_wp2
                go_roundw
                case rel => exact ⟨k + 1, by omega, by rw [HE.out.1], by rw [HE.out.2], by go_num, hb02⟩
                case measure => simp [intOf]; omega
              · have HE := Lib.hid (HX.out (fun h => h.2.elim h1 h2))
                go_wp2
                go_roundw
                case rel => exact ⟨k + 1, by omega, by rw [HE.out.1], by rw [HE.out.2], by go_num, hb02⟩
                case measure => simp [intOf]; omega
          · have HE := Lib.hid (HX.out (fun h => h0 h.1))
            go_wp2
            go_roundw
            case rel => exact ⟨k + 1, by omega, by rw [HE.out.1], by rw [HE.out.2], by go_num, hb02⟩
            case measure => simp [intOf]; omega
        · obtain rfl : k = n := by omega
          have hkn : ¬ (k : Int) + 1 ≤ (k : Int) := by omega
          go_wp2
          go_ret
          exact ⟨ret_int (by rw [HV.out, HW.out]), hb⟩
    · have HV := Lib.hid (brnZ_no (l := l) (m := m) (fun h => hm h.2))
      have HB := Lib.hid hB
      have HN := Lib.hid hm
      clear hB hm
      go_enter Try.func40, Try.ntmps40
      go_wp2_with fail
      refine (spec_TuneOk _ _ _ _ hrd (by omega)).mono ?_
      rintro e w1 ⟨rfl, hb1⟩
      rw [HB.out]
      have hmm := HN.out
      go_wp2_with (first | (go_at_call 58; refine (in_yes _ _ _ _ ?_).mono ?_; omega; rintro e w1 ⟨rfl, rfl⟩) | (go_at_call 58; refine (in_no _ _ _ _ ?_).mono ?_; omega; rintro e w1 ⟨rfl, rfl⟩))
      go_ret
      exact ⟨ret_int HV.out.symm, hb1⟩
end Go.Proofs.Ytajlopigpppeaaa
