/- The program's and the reference's SameRhythm return the same for all lists and numbers. -/
import Derived.Test.YtkbceojeahninaaRhythmC
namespace Go.Proofs.Ytkbceojeahninaa
open Go.ChangeShapes Go.WideShapes Go.ChangeAt Go.RowKit
set_option linter.unusedVariables false

/-- Whether some turn of a is b. -/
def sameT (a b : List Int) (s : Nat) : Bool := decide (∃ m, m < s ∧ movB a b (m : Nat) s = true)
def sameR (a b : List Int) (s : Int) : Bool := rhB a s && (rhB b s && sameT a b s.toNat)
set_option maxHeartbeats 1000000 in
theorem impl_SameR (A B : Option Addr) (c d : Nat) (a b : List Int) (s : Int) (w : World) (hrA : RdI w A a) (hrB : RdI w B b) (hl : a.length ≤ 1000000000) (hm : b.length ≤ 1000000000) :
    Calls Try.prog 13 #[.slice A a.length c, .slice B b.length d, .int .i64 s] w fun e w' => e = .returned (.bool (sameR a b s)) ∧ Below w.heap.size w w' := by
  by_cases hs : 1 ≤ s ∧ s ≤ 96
  · have ea : rhB a s = risB a 0 (s - 1) := by unfold rhB; rw [decide_eq_true hs, Bool.true_and]
    have eb : rhB b s = risB b 0 (s - 1) := by unfold rhB; rw [decide_eq_true hs, Bool.true_and]
    rcases hoa : rhB a s with _ | _
    · have HZ : Hid (sameR a b s = false) := by unfold Hid sameR; rw [hoa]; rfl
      have HK := Lib.hid (ea.symm.trans hoa)
      clear hoa ea eb
      obtain ⟨hs1, hs2⟩ := hs
      go_enter Try.func13, Try.ntmps13
      go_wp2_with (first | (go_at_call 54; refine (rising_any _ _ _ _ _ _ hrA hl).mono ?_; rintro e w1 ⟨rfl, rfl⟩; rw [HK.out]) | (first | (go_at_call 53; refine (wi_yes _ _ _ _ ?_).mono ?_; omega; rintro e w1 ⟨rfl, rfl⟩) | (go_at_call 53; refine (wi_no _ _ _ _ ?_).mono ?_; omega; rintro e w1 ⟨rfl, rfl⟩)))
      go_ret
      exact ⟨ret_bool HZ.out.symm, Below.refl _ _⟩
    · rcases hob : rhB b s with _ | _
      · have HZ : Hid (sameR a b s = false) := by unfold Hid sameR; rw [hoa, hob]; rfl
        have HK := Lib.hid (ea.symm.trans hoa)
        have HL := Lib.hid (eb.symm.trans hob)
        clear hoa hob ea eb
        obtain ⟨hs1, hs2⟩ := hs
        go_enter Try.func13, Try.ntmps13
        go_wp2_with (first | (go_at_call 53; refine (wi_yes _ _ _ _ ?_).mono ?_; omega; rintro e w1 ⟨rfl, rfl⟩) | (go_at_call 53; refine (wi_no _ _ _ _ ?_).mono ?_; omega; rintro e w1 ⟨rfl, rfl⟩))
        refine (rising_any _ _ _ _ _ _ hrA hl).mono ?_
        rintro e w1 ⟨rfl, rfl⟩
        rw [HK.out]
        go_wp2_with (first | (go_at_call 53; refine (wi_yes _ _ _ _ ?_).mono ?_; omega; rintro e w1 ⟨rfl, rfl⟩) | (go_at_call 53; refine (wi_no _ _ _ _ ?_).mono ?_; omega; rintro e w1 ⟨rfl, rfl⟩))
        refine (rising_any _ _ _ _ _ _ hrB hm).mono ?_
        rintro e w1 ⟨rfl, rfl⟩
        rw [HL.out]
        go_wp2
        go_ret
        exact ⟨ret_bool HZ.out.symm, Below.refl _ _⟩
      · have HZ : Hid (sameR a b s = sameT a b s.toNat) := by unfold Hid sameR; rw [hoa, hob]; rfl
        obtain ⟨_, hr⟩ := rhB_iff hoa
        have HK := Lib.hid (ea.symm.trans hoa)
        have HL := Lib.hid (eb.symm.trans hob)
        clear hoa hob ea eb
        obtain ⟨hs1, hs2⟩ := hs
        obtain ⟨s, rfl⟩ := Int.eq_ofNat_of_zero_le (show 0 ≤ s by omega)
        rw [Int.toNat_natCast] at HZ
        have HR := Lib.hid hr
        clear hr
        go_enter Try.func13, Try.ntmps13
        go_wp2_with (first | (go_at_call 53; refine (wi_yes _ _ _ _ ?_).mono ?_; omega; rintro e w1 ⟨rfl, rfl⟩) | (go_at_call 53; refine (wi_no _ _ _ _ ?_).mono ?_; omega; rintro e w1 ⟨rfl, rfl⟩))
        refine (rising_any _ _ _ _ _ _ hrA hl).mono ?_
        rintro e w1 ⟨rfl, rfl⟩
        rw [HK.out]
        go_wp2_with (first | (go_at_call 53; refine (wi_yes _ _ _ _ ?_).mono ?_; omega; rintro e w1 ⟨rfl, rfl⟩) | (go_at_call 53; refine (wi_no _ _ _ _ ?_).mono ?_; omega; rintro e w1 ⟨rfl, rfl⟩))
        refine (rising_any _ _ _ _ _ _ hrB hm).mono ?_
        rintro e w1 ⟨rfl, rfl⟩
        rw [HL.out]
        go_wp2
        go_loop [7] (fun q => ∃ k : Nat, k ≤ s ∧ q = .int .i64 k ∧ (∀ m, m < k → movB a b (m : Nat) s = false)) (fun q => s - (intOf q).toNat)
        case atStart => exact ⟨0, by omega, rfl, fun m h => by omega⟩
        case round =>
          obtain ⟨k, hk, rfl, hM⟩ := hrel
          have HM := Lib.hid hM
          clear hM
          by_cases hlt : k < s
          · rcases hg : movB a b k s with _ | _
            · have HA : Hid (∀ m, m < k + 1 → movB a b (m : Nat) s = false) := to_succ HM.out hg
              have HG := Lib.hid hg
              clear hg
              go_wp2_with (go_at_call 55; refine (moved_any _ _ _ _ _ _ _ _ _ hrA hrB hl hm ⟨hs1, hs2⟩ (by omega) HR.out).mono ?_; rintro e w1 ⟨rfl, rfl⟩; rw [HG.out])
              go_round
              case rel => exact ⟨k + 1, by omega, by go_num, HA.out⟩
              case measure => simp [intOf]; omega
            · have HV : Hid (sameT a b s = true) := decide_eq_true ⟨k, hlt, hg⟩
              have HG := Lib.hid hg
              clear hg
              go_wp2_with (go_at_call 55; refine (moved_any _ _ _ _ _ _ _ _ _ hrA hrB hl hm ⟨hs1, hs2⟩ (by omega) HR.out).mono ?_; rintro e w1 ⟨rfl, rfl⟩; rw [HG.out])
              go_ret
              exact ⟨ret_bool (by rw [HZ.out, HV.out]), Below.refl _ _⟩
          · go_wp2
            go_ret
            refine ⟨ret_bool ?_, Below.refl _ _⟩
            rw [HZ.out]
            exact (decide_eq_false fun ⟨m, h1, h2⟩ => by rw [HM.out m (by omega)] at h2; cases h2).symm
  · have HZ : Hid (sameR a b s = false) := by unfold Hid sameR rhB; rw [decide_eq_false hs]; rfl
    go_enter Try.func13, Try.ntmps13
    go_wp2_with (first | (go_at_call 53; refine (wi_yes _ _ _ _ ?_).mono ?_; omega; rintro e w1 ⟨rfl, rfl⟩) | (go_at_call 53; refine (wi_no _ _ _ _ ?_).mono ?_; omega; rintro e w1 ⟨rfl, rfl⟩))
    go_ret
    exact ⟨ret_bool HZ.out.symm, Below.refl _ _⟩
end Go.Proofs.Ytkbceojeahninaa
