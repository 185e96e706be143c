/- The program's and the reference's SameRhythm return the same for all lists and numbers. -/
import Derived.Test.YtcjlkdojobdlcaaRhythmC
namespace Go.Proofs.Ytcjlkdojobdlcaa
open Go.ChangeShapes Go.WideShapes Go.ChangeAt Go.RowKit
set_option linter.unusedVariables false

/-- Whether some turn of a is b. -/
def sameT (a b : List Int) (s : Nat) : Bool := decide (∃ m, m < s ∧ movB a b (m : Nat) s = true)
def sameR (a b : List Int) (s : Int) : Bool := rhB a s && (rhB b s && sameT a b s.toNat)
set_option maxHeartbeats 1000000 in
theorem impl_SameR (A B : Option Addr) (c d : Nat) (a b : List Int) (s : Int) (w : World) (hrA : RdI w A a) (hrB : RdI w B b) (hl : a.length ≤ 1000000000) (hm : b.length ≤ 1000000000) :
    Calls Try.prog 27 #[.slice A a.length c, .slice B b.length d, .int .i64 s] w fun e w' => e = .returned (.bool (sameR a b s)) ∧ Below w.heap.size w w' := by
  by_cases hs : 1 ≤ s ∧ s ≤ 96
  · have ea : rhB a s = risB a 0 (s - 1) := by unfold rhB; rw [decide_eq_true hs, Bool.true_and]
    have eb : rhB b s = risB b 0 (s - 1) := by unfold rhB; rw [decide_eq_true hs, Bool.true_and]
    rcases hoa : rhB a s with _ | _
    · have HZ : Hid (sameR a b s = false) := by unfold Hid sameR; rw [hoa]; rfl
      have HK := Lib.hid (ea.symm.trans hoa)
      clear hoa ea eb
      obtain ⟨hs1, hs2⟩ := hs
      go_enter Try.func27, Try.ntmps27
      go_wp2_with (first | (go_at_call 45; refine (rising_any _ _ _ _ _ _ hrA hl).mono ?_; rintro e w1 ⟨rfl, rfl⟩; rw [HK.out]) | (first | (go_at_call 38; refine (wi_yes _ _ _ _ ?_).mono ?_; omega; rintro e w1 ⟨rfl, rfl⟩) | (go_at_call 38; refine (wi_no _ _ _ _ ?_).mono ?_; omega; rintro e w1 ⟨rfl, rfl⟩)))
      go_ret
      exact ⟨ret_bool HZ.out.symm, Below.refl _ _⟩
    · rcases hob : rhB b s with _ | _
      · have HZ : Hid (sameR a b s = false) := by unfold Hid sameR; rw [hoa, hob]; rfl
        have HK := Lib.hid (ea.symm.trans hoa)
        have HL := Lib.hid (eb.symm.trans hob)
        clear hoa hob ea eb
        obtain ⟨hs1, hs2⟩ := hs
        go_enter Try.func27, Try.ntmps27
        go_wp2_with (first | (go_at_call 38; refine (wi_yes _ _ _ _ ?_).mono ?_; omega; rintro e w1 ⟨rfl, rfl⟩) | (go_at_call 38; refine (wi_no _ _ _ _ ?_).mono ?_; omega; rintro e w1 ⟨rfl, rfl⟩))
        refine (rising_any _ _ _ _ _ _ hrA hl).mono ?_
        rintro e w1 ⟨rfl, rfl⟩
        rw [HK.out]
        go_wp2_with (first | (go_at_call 38; refine (wi_yes _ _ _ _ ?_).mono ?_; omega; rintro e w1 ⟨rfl, rfl⟩) | (go_at_call 38; refine (wi_no _ _ _ _ ?_).mono ?_; omega; rintro e w1 ⟨rfl, rfl⟩))
        refine (rising_any _ _ _ _ _ _ hrB hm).mono ?_
        rintro e w1 ⟨rfl, rfl⟩
        rw [HL.out]
        go_wp2
        go_ret
        exact ⟨ret_bool HZ.out.symm, Below.refl _ _⟩
      · have HZ : Hid (sameR a b s = sameT a b s.toNat) := by unfold Hid sameR; rw [hoa, hob]; rfl
        obtain ⟨_, hr⟩ := rhB_iff hoa
        have HK := Lib.hid (ea.symm.trans hoa)
        have HL := Lib.hid (eb.symm.trans hob)
        clear hoa hob ea eb
        obtain ⟨hs1, hs2⟩ := hs
        obtain ⟨s, rfl⟩ := Int.eq_ofNat_of_zero_le (show 0 ≤ s by omega)
        rw [Int.toNat_natCast] at HZ
        have HR := Lib.hid hr
        clear hr
        go_enter Try.func27, Try.ntmps27
        go_wp2_with (first | (go_at_call 38; refine (wi_yes _ _ _ _ ?_).mono ?_; omega; rintro e w1 ⟨rfl, rfl⟩) | (go_at_call 38; refine (wi_no _ _ _ _ ?_).mono ?_; omega; rintro e w1 ⟨rfl, rfl⟩))
        refine (rising_any _ _ _ _ _ _ hrA hl).mono ?_
        rintro e w1 ⟨rfl, rfl⟩
        rw [HK.out]
        go_wp2_with (first | (go_at_call 38; refine (wi_yes _ _ _ _ ?_).mono ?_; omega; rintro e w1 ⟨rfl, rfl⟩) | (go_at_call 38; refine (wi_no _ _ _ _ ?_).mono ?_; omega; rintro e w1 ⟨rfl, rfl⟩))
        refine (rising_any _ _ _ _ _ _ hrB hm).mono ?_
        rintro e w1 ⟨rfl, rfl⟩
        rw [HL.out]
        go_wp2
        go_loop [7] (fun q => ∃ k : Nat, k ≤ s ∧ q = .int .i64 k ∧ (∀ m, m < k → movB a b (m : Nat) s = false)) (fun q => s - (intOf q).toNat)
        case atStart => exact ⟨0, by omega, rfl, fun m h => by omega⟩
        case round =>
          obtain ⟨k, hk, rfl, hM⟩ := hrel
          have HM := Lib.hid hM
          clear hM
          by_cases hlt : k < s
          · rcases hg : movB a b k s with _ | _
            · have HA : Hid (∀ m, m < k + 1 → movB a b (m : Nat) s = false) := to_succ HM.out hg
              have HG := Lib.hid hg
              clear hg
              go_wp2_with (go_at_call 46; refine (moved_any _ _ _ _ _ _ _ _ _ hrA hrB hl hm ⟨hs1, hs2⟩ (by omega) HR.out).mono ?_; rintro e w1 ⟨rfl, rfl⟩; rw [HG.out])
              go_round
              case rel => exact ⟨k + 1, by omega, by go_num, HA.out⟩
              case measure => simp [intOf]; omega
            · have HV : Hid (sameT a b s = true) := decide_eq_true ⟨k, hlt, hg⟩
              have HG := Lib.hid hg
              clear hg
              go_wp2_with (go_at_call 46; refine (moved_any _ _ _ _ _ _ _ _ _ hrA hrB hl hm ⟨hs1, hs2⟩ (by omega) HR.out).mono ?_; rintro e w1 ⟨rfl, rfl⟩; rw [HG.out])
              go_ret
              exact ⟨ret_bool (by rw [HZ.out, HV.out]), Below.refl _ _⟩
          · go_wp2
            go_ret
            refine ⟨ret_bool ?_, Below.refl _ _⟩
            rw [HZ.out]
            exact (decide_eq_false fun ⟨m, h1, h2⟩ => by rw [HM.out m (by omega)] at h2; cases h2).symm
  · have HZ : Hid (sameR a b s = false) := by unfold Hid sameR rhB; rw [decide_eq_false hs]; rfl
    go_enter Try.func27, Try.ntmps27
    go_wp2_with (first | (go_at_call 38; refine (wi_yes _ _ _ _ ?_).mono ?_; omega; rintro e w1 ⟨rfl, rfl⟩) | (go_at_call 38; refine (wi_no _ _ _ _ ?_).mono ?_; omega; rintro e w1 ⟨rfl, rfl⟩))
    go_ret
    exact ⟨ret_bool HZ.out.symm, Below.refl _ _⟩
set_option maxHeartbeats 1000000 in
theorem spec_SameR (A B : Option Addr) (c d : Nat) (a b : List Int) (s : Int) (w : World) (hrA : RdI w A a) (hrB : RdI w B b) (hl : a.length ≤ 1000000000) (hm : b.length ≤ 1000000000) :
    Calls Try.prog 26 #[.slice A a.length c, .slice B b.length d, .int .i64 s] w fun e w' => e = .returned (.bool (sameR a b s)) ∧ Below w.heap.size w w' := by
  rcases hoa : rhB a s with _ | _
  · have HZ : Hid (sameR a b s = false) := by unfold Hid sameR; rw [hoa]; rfl
    have HK := Lib.hid hoa
    clear hoa
    go_enter Try.func26, Try.ntmps26
    go_wp2_with fail
    refine (l20Ok_any _ _ _ _ _ hrA hl).mono ?_
    rintro e w1 ⟨rfl, hb1⟩
    rw [HK.out]
    go_wp2
    go_ret
    exact ⟨ret_bool HZ.out.symm, hb1⟩
  · rcases hob : rhB b s with _ | _
    · have HZ : Hid (sameR a b s = false) := by unfold Hid sameR; rw [hoa, hob]; rfl
      have HK := Lib.hid hoa
      have HL := Lib.hid hob
      clear hoa hob
      go_enter Try.func26, Try.ntmps26
      go_wp2_with fail
      refine (l20Ok_any _ _ _ _ _ hrA hl).mono ?_
      rintro e w1 ⟨rfl, hb1⟩
      rw [HK.out]
      go_wp2_with fail
      refine (l20Ok_any _ _ _ _ _ (hrB.below hb1 rfl) hm).mono ?_
      rintro e w2 ⟨rfl, hb2⟩
      rw [HL.out]
      go_wp2
      go_ret
      exact ⟨ret_bool HZ.out.symm, hb1.trans (hb2.mono hb1.size)⟩
    · have HZ : Hid (sameR a b s = sameT a b s.toNat) := by unfold Hid sameR; rw [hoa, hob]; rfl
      obtain ⟨hs, hr⟩ := rhB_iff hoa
      obtain ⟨_, hq⟩ := rhB_iff hob
      have HK := Lib.hid hoa
      have HL := Lib.hid hob
      clear hoa hob
      obtain ⟨hs1, hs2⟩ := hs
      obtain ⟨s, rfl⟩ := Int.eq_ofNat_of_zero_le (show 0 ≤ s by omega)
      rw [Int.toNat_natCast] at HZ
      have HR := Lib.hid hr
      have HQ := Lib.hid hq
      clear hr hq
      go_enter Try.func26, Try.ntmps26
      go_wp2_with fail
      refine (l20Ok_any _ _ _ _ _ hrA hl).mono ?_
      rintro e w1 ⟨rfl, hb1⟩
      rw [HK.out]
      go_wp2_with fail
      refine (l20Ok_any _ _ _ _ _ (hrB.below hb1 rfl) hm).mono ?_
      rintro e w2 ⟨rfl, hb2⟩
      rw [HL.out]
      have hb12 : Below w.heap.size w w2 := hb1.trans (hb2.mono hb1.size)
      go_wp2
      go_loopw [7] (fun q wr => ∃ k : Nat, k ≤ s ∧ q = .int .i64 k ∧ (∀ m, m < k → movB a b (m : Nat) s = false) ∧ Below w.heap.size w wr) (fun q _ => s - (intOf q).toNat)
      case atStart => exact ⟨0, by omega, rfl, fun m h => by omega, hb12⟩
      case round =>
        obtain ⟨k, hk, rfl, hM, hb⟩ := hrel
        have HM := Lib.hid hM
        clear hM
        by_cases hlt : k < s
        · rcases hg : movB a b k s with _ | _
          · have HA : Hid (∀ m, m < k + 1 → movB a b (m : Nat) s = false) := to_succ HM.out hg
            have HG := Lib.hid hg
            clear hg
            go_wp2_with (go_at_call 44; refine (l20Moved_any _ _ _ _ _ _ k s _ (hrA.below hb rfl) (hrB.below hb rfl) hl hm (by omega) (by omega) HR.out HQ.out).mono ?_; rintro e w1 ⟨rfl, hb1⟩; rw [HG.out])
            go_roundw
            case rel => exact ⟨k + 1, by omega, by go_num, HA.out, hb.trans (hb1.mono hb.size)⟩
            case measure => simp [intOf]; omega
          · have HV : Hid (sameT a b s = true) := decide_eq_true ⟨k, hlt, hg⟩
            have HG := Lib.hid hg
            clear hg
            go_wp2_with (go_at_call 44; refine (l20Moved_any _ _ _ _ _ _ k s _ (hrA.below hb rfl) (hrB.below hb rfl) hl hm (by omega) (by omega) HR.out HQ.out).mono ?_; rintro e w1 ⟨rfl, hb1⟩; rw [HG.out])
            go_ret
            exact ⟨ret_bool (by rw [HZ.out, HV.out]), hb.trans (hb1.mono hb.size)⟩
        · go_wp2
          go_ret
          refine ⟨ret_bool ?_, hb⟩
          rw [HZ.out]
          exact (decide_eq_false fun ⟨m, h1, h2⟩ => by rw [HM.out m (by omega)] at h2; cases h2).symm
end Go.Proofs.Ytcjlkdojobdlcaa
