/- The program's and the reference's LeastPeriod and SameRhythm return the same for all lists and numbers. -/
import Derived.Test.YtkbceojeahninaaRhythmB
namespace Go.Proofs.Ytkbceojeahninaa
open Go.ChangeShapes Go.WideShapes Go.ChangeAt Go.RowKit
set_option linter.unusedVariables false

theorem rhB_iff {l : List Int} {s : Int} (h : rhB l s = true) : (1 ≤ s ∧ s ≤ 96) ∧ ∀ i, i < l.length → 0 ≤ gt l i ∧ gt l i ≤ s - 1 := by
  unfold rhB at h
  rw [Bool.and_eq_true] at h
  exact ⟨of_decide_eq_true h.1, fun i hi => (of_decide_eq_true h.2 i hi).1⟩
def perGood (l : List Int) (s n : Int) : Bool := decide (s % n = 0) && movB l l n s
theorem perGood_self {l : List Int} {s : Int} (hs : 1 ≤ s) (h : ∀ i, i < l.length → 0 ≤ gt l i ∧ gt l i ≤ s - 1) : perGood l s s = true := by
  unfold perGood
  rw [Int.emod_self, decide_eq_true rfl, Bool.true_and]
  refine decide_eq_true ⟨rfl, fun i hi => ?_⟩
  unfold movAt
  have hb := h i hi
  refine mem_yes hi ?_
  rw [Int.add_emod_right, Int.emod_eq_of_lt hb.1 (by omega)]
def perTo (l : List Int) (s : Int) : Int := (((List.range 97).find? fun (n : Nat) => decide (1 ≤ n) && perGood l s n).getD 0 : Nat)
theorem perTo_eq {l : List Int} {s : Int} {n : Nat} (h1 : 1 ≤ n) (h2 : n ≤ 96) (hg : perGood l s n = true) (hM : ∀ m, 1 ≤ m → m < n → perGood l s m = false) : perTo l s = n := by
  unfold perTo
  have : ((List.range 97).find? fun (n : Nat) => decide (1 ≤ n) && perGood l s n) = some n := by
    rw [List.find?_range_eq_some]
    refine ⟨by rw [hg, decide_eq_true h1]; rfl, by simp; omega, fun j hj => ?_⟩
    rcases Nat.eq_zero_or_pos j with h | h
    · subst h; rfl
    · simp only [Bool.not_eq_true', Bool.and_eq_false_iff]
      exact .inr (hM j h hj)
  rw [this]
  rfl
def perZ (l : List Int) (s : Int) : Int := if rhB l s then perTo l s else -1

set_option maxHeartbeats 1000000 in
theorem impl_Per (A : Option Addr) (c : Nat) (l : List Int) (s : Int) (w : World) (hrd : RdI w A l) (hl : l.length ≤ 1000000000) :
    Calls Try.prog 12 #[.slice A l.length c, .int .i64 s] w fun e w' => e = .returned (.int .i64 (perZ l s)) ∧ Below w.heap.size w w' := by
  rcases hok : rhB l s with _ | _
  · have HZ : Hid (perZ l s = -1) := by unfold Hid perZ; rw [hok]; rfl
    unfold rhB at hok
    by_cases hs : 1 ≤ s ∧ s ≤ 96
    · rw [decide_eq_true hs, Bool.true_and] at hok
      have HK := Lib.hid hok
      clear hok
      obtain ⟨hs1, hs2⟩ := hs
      go_enter Try.func12, Try.ntmps12
      go_wp2_with (first | (go_at_call 54; refine (rising_any _ _ _ _ _ _ hrd hl).mono ?_; rintro e w1 ⟨rfl, rfl⟩; rw [HK.out]) | (first | (go_at_call 53; refine (wi_yes _ _ _ _ ?_).mono ?_; omega; rintro e w1 ⟨rfl, rfl⟩) | (go_at_call 53; refine (wi_no _ _ _ _ ?_).mono ?_; omega; rintro e w1 ⟨rfl, rfl⟩)))
      go_ret
      exact ⟨ret_int HZ.out.symm, Below.refl _ _⟩
    · clear hok
      go_enter Try.func12, Try.ntmps12
      go_wp2_with (first | (go_at_call 53; refine (wi_yes _ _ _ _ ?_).mono ?_; omega; rintro e w1 ⟨rfl, rfl⟩) | (go_at_call 53; refine (wi_no _ _ _ _ ?_).mono ?_; omega; rintro e w1 ⟨rfl, rfl⟩))
      go_ret
      exact ⟨ret_int HZ.out.symm, Below.refl _ _⟩
  · have HZ : Hid (perZ l s = perTo l s) := by unfold Hid perZ; rw [hok]; rfl
    obtain ⟨hs, hr⟩ := rhB_iff hok
    have hself := Lib.hid (perGood_self hs.1 hr)
    unfold rhB at hok
    rw [decide_eq_true hs, Bool.true_and] at hok
    have HK := Lib.hid hok
    clear hok
    obtain ⟨hs1, hs2⟩ := hs
    obtain ⟨s, rfl⟩ := Int.eq_ofNat_of_zero_le (show 0 ≤ s by omega)
    have HR := Lib.hid hr
    clear hr
    go_enter Try.func12, Try.ntmps12
    go_wp2_with (first | (go_at_call 54; refine (rising_any _ _ _ _ _ _ hrd hl).mono ?_; rintro e w1 ⟨rfl, rfl⟩; rw [HK.out]) | (first | (go_at_call 53; refine (wi_yes _ _ _ _ ?_).mono ?_; omega; rintro e w1 ⟨rfl, rfl⟩) | (go_at_call 53; refine (wi_no _ _ _ _ ?_).mono ?_; omega; rintro e w1 ⟨rfl, rfl⟩)))
    go_loop [5] (fun q => ∃ k : Nat, 1 ≤ k ∧ k ≤ s ∧ q = .int .i64 k ∧ (∀ m, 1 ≤ m → m < k → perGood l s m = false)) (fun q => s - (intOf q).toNat)
    case atStart => exact ⟨1, by omega, by omega, rfl, fun m h1 h2 => by omega⟩
    case round =>
      obtain ⟨k, hk1, hk, rfl, hM⟩ := hrel
      have HM := Lib.hid hM
      clear hM
      have hk2 : (1 : Int) ≤ k := by omega
      rcases hg : perGood l s k with _ | _
      · have hne : k ≠ s := fun e => by subst e; rw [hself.out] at hg; cases hg
        have HA : Hid (∀ m, 1 ≤ m → m < k + 1 → perGood l s m = false) := fun m h1 h2 => by
          by_cases e : m = k
          · subst e; exact hg
          · exact HM.out m h1 (by omega)
        unfold perGood at hg
        by_cases hdiv : (s : Int) % (k : Int) = 0
        · rw [decide_eq_true hdiv, Bool.true_and] at hg
          have hq : ((s : Int) % (k : Int) != 0) = false := by simpa using hdiv
          have HG := Lib.hid hg
          clear hg hdiv
          go_wp2_with (go_at_call 55; refine (moved_any _ _ _ _ _ _ _ _ _ hrd hrd hl hl ⟨hs1, hs2⟩ (by omega) HR.out).mono ?_; rintro e w1 ⟨rfl, rfl⟩; rw [HG.out])
          go_round
          case rel => exact ⟨k + 1, by omega, by omega, by go_num, HA.out⟩
          case measure => simp [intOf]; omega
        · have hq : ((s : Int) % (k : Int) != 0) = true := by simpa using hdiv
          clear hg hdiv
          go_wp2
          go_round
          case rel => exact ⟨k + 1, by omega, by omega, by go_num, HA.out⟩
          case measure => simp [intOf]; omega
      · have HV : Hid (perTo l s = k) := perTo_eq hk1 (by omega) hg HM.out
        unfold perGood at hg
        rw [Bool.and_eq_true, decide_eq_true_eq] at hg
        have hq : ((s : Int) % (k : Int) != 0) = false := by simpa using hg.1
        have HG := Lib.hid hg.2
        clear hg
        go_wp2_with (go_at_call 55; refine (moved_any _ _ _ _ _ _ _ _ _ hrd hrd hl hl ⟨hs1, hs2⟩ (by omega) HR.out).mono ?_; rintro e w1 ⟨rfl, rfl⟩; rw [HG.out])
        go_ret
        exact ⟨ret_int (by rw [HZ.out, HV.out]), Below.refl _ _⟩
end Go.Proofs.Ytkbceojeahninaa
