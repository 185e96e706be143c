/- The longest part of a tune that comes again. -/
import Derived.Test.YtjfaodbjmanfnaaMot
namespace Go.Proofs.Ytjfaodbjmanfnaa
open Go.ChangeShapes Go.WideShapes Go.ChangeAt Go.RowKit
set_option linter.unusedVariables false
/-- The parts of n notes at i and at k are the same. -/
def smN (t : List (Int × Int)) (i k n : Nat) : Prop := ∀ j, j < n → tm t (i + j) - tm t i = tm t (k + j) - tm t k ∧ pt t (i + j) - pt t i = pt t (k + j) - pt t k
noncomputable instance (t : List (Int × Int)) (i k n : Nat) : Decidable (smN t i k n) := Classical.propDecidable _
theorem smN_mono {t : List (Int × Int)} {i k n m : Nat} (h : smN t i k n) (hm : m ≤ n) : smN t i k m := fun j hj => h j (by omega)
theorem smN_one (t : List (Int × Int)) (i k : Nat) : smN t i k 1 := by
  intro j hj
  obtain rfl : j = 0 := by omega
  exact ⟨by simp, by simp⟩
/-- The greatest n up to m for which they are. -/
noncomputable def rpZ (t : List (Int × Int)) (i k : Nat) : Nat → Nat
  | 0 => 0
  | m + 1 => if smN t i k (m + 1) then m + 1 else rpZ t i k m
theorem rpZ_le (t : List (Int × Int)) (i k : Nat) : ∀ m, rpZ t i k m ≤ m
  | 0 => Nat.le_refl _
  | m + 1 => by have := rpZ_le t i k m; unfold rpZ; split <;> omega
theorem rpZ_sm (t : List (Int × Int)) (i k : Nat) : ∀ m, smN t i k (rpZ t i k m)
  | 0 => fun j hj => by simp [rpZ] at hj
  | m + 1 => by
    unfold rpZ; split
    · assumption
    · exact rpZ_sm t i k m
theorem rpZ_max {t : List (Int × Int)} {i k n : Nat} (h : smN t i k n) : ∀ m, n ≤ m → n ≤ rpZ t i k m
  | 0, hn => by omega
  | m + 1, hn => by
    unfold rpZ
    by_cases hs : smN t i k (m + 1)
    · rw [if_pos hs]; omega
    · rw [if_neg hs]
      have : n ≠ m + 1 := fun e => hs (e ▸ h)
      exact rpZ_max h m (by omega)
theorem rpZ_eq {t : List (Int × Int)} {i k n m : Nat} (h : smN t i k n) (hn : n ≤ m) (hx : n = m ∨ ¬ smN t i k (n + 1)) : rpZ t i k m = n := by
  have h1 := rpZ_max h m hn
  have h2 := rpZ_le t i k m
  rcases hx with hx | hx
  · omega
  · by_cases h3 : rpZ t i k m = n
    · exact h3
    · exact absurd (smN_mono (rpZ_sm t i k m) (show n + 1 ≤ rpZ t i k m by omega)) hx
theorem tune_sub {t : List (Int × Int)} {i n : Nat} (h : tuneB t = true) (hi : i + n ≤ t.length) : tuneB (subL t i n) = true := by
  have hp : tuneP t := of_decide_eq_true h
  have htm : ∀ j, j < n → tm (subL t i n) j = tm t (i + j) ∧ pt (subL t i n) j = pt t (i + j) := fun j hj => by
    unfold tm pt; rw [subL_get hj]; exact ⟨rfl, rfl⟩
  refine decide_eq_true ⟨fun k hk => ?_, by rw [subL_len hi]; have := hp.2; omega⟩
  rw [subL_len hi] at hk
  obtain ⟨h1, h2⟩ := htm k hk
  have h3 := hp.1 (i + k) (by omega)
  refine ⟨by rw [h1]; exact h3.1, by rw [h2]; exact h3.2.1, fun hk0 => ?_⟩
  have h4 := h3.2.2 (by omega)
  obtain ⟨m, rfl⟩ : ∃ m, k = m + 1 := ⟨k - 1, by omega⟩
  obtain ⟨h5, h6⟩ := htm m (by omega)
  unfold lessAt at h4 ⊢
  rw [show m + 1 - 1 = m by omega, h5, h6, h1, h2]
  rwa [show i + (m + 1) - 1 = i + m by omega] at h4
theorem samB_sub {t : List (Int × Int)} {i k n : Nat} (h : tuneB t = true) (hi : i + n ≤ t.length) (hk : k + n ≤ t.length) : samB (subL t i n) (subL t k n) = decide (smN t i k n) := by
  have hok : samOk (subL t i n) (subL t k n) := ⟨tune_sub h hi, tune_sub h hk, by rw [subL_len hi, subL_len hk]⟩
  rw [samB_at hok]
  have hg : ∀ i, i + n ≤ t.length → ∀ j, j < n → tm (subL t i n) j = tm t (i + j) ∧ pt (subL t i n) j = pt t (i + j) := fun i hi j hj => by
    unfold tm pt; rw [subL_get hj]; exact ⟨rfl, rfl⟩
  apply decide_eq_decide.2
  unfold smAll smN smAt
  rw [subL_len hi]
  constructor
  · intro hh j hj
    have := hh j hj
    rw [(hg i hi j hj).1, (hg i hi j hj).2, (hg k hk j hj).1, (hg k hk j hj).2, (hg i hi 0 (by omega)).1, (hg i hi 0 (by omega)).2, (hg k hk 0 (by omega)).1, (hg k hk 0 (by omega)).2] at this
    exact this
  · intro hh j hj
    have := hh j hj
    rw [(hg i hi j hj).1, (hg i hi j hj).2, (hg k hk j hj).1, (hg k hk j hj).2, (hg i hi 0 (by omega)).1, (hg i hi 0 (by omega)).2, (hg k hk 0 (by omega)).1, (hg k hk 0 (by omega)).2]
    exact this
/-- The longest repeat of the part at i, over later places below k. -/
noncomputable def lrI (t : List (Int × Int)) (i : Nat) (a : Nat) : Nat → Nat
  | 0 => a
  | d + 1 => max (lrI t i a d) (rpZ t i (i + 1 + d) (t.length - (i + 1 + d)))
noncomputable def lrZ (t : List (Int × Int)) : Nat → Nat
  | 0 => 0
  | i + 1 => lrI t i (lrZ t i) (t.length - (i + 1))
theorem lrI_le (t : List (Int × Int)) (i a : Nat) (ha : a ≤ t.length) : ∀ d, lrI t i a d ≤ t.length
  | 0 => ha
  | d + 1 => by
    have h1 := lrI_le t i a ha d
    have h2 := rpZ_le t i (i + 1 + d) (t.length - (i + 1 + d))
    unfold lrI; omega
theorem lrZ_le (t : List (Int × Int)) : ∀ i, lrZ t i ≤ t.length
  | 0 => Nat.zero_le _
  | i + 1 => lrI_le t i _ (lrZ_le t i) _
noncomputable def repB (t : List (Int × Int)) : Int := if tuneB t = true then (lrZ t t.length : Int) else -1
theorem repB_yes {t : List (Int × Int)} (h : tuneB t = true) : repB t = (lrZ t t.length : Int) := if_pos h
theorem repB_no {t : List (Int × Int)} (h : tuneB t = false) : repB t = -1 := if_neg (by rw [h]; simp)
theorem lrI_at {t : List (Int × Int)} {i k a : Nat} (h : i + 1 ≤ k) : lrI t i a (k + 1 - (i + 1)) = max (lrI t i a (k - (i + 1))) (rpZ t i k (t.length - k)) := by
  obtain ⟨d, rfl⟩ : ∃ d, k = i + 1 + d := ⟨k - (i + 1), by omega⟩
  rw [show i + 1 + d + 1 - (i + 1) = d + 1 by omega, show i + 1 + d - (i + 1) = d by omega]
  rfl
theorem rep_step {t : List (Int × Int)} {i k a m M : Nat} (hm : a ≤ m) (h : m = a ∨ (smN t i k m ∧ m ≤ M)) (hx : M < m + 1 ∨ ¬ smN t i k (m + 1)) : max a (rpZ t i k M) = m := by
  have h1 := rpZ_le t i k M
  have h2 : rpZ t i k M ≤ m := by
    rcases hx with hx | hx
    · omega
    · by_cases h3 : rpZ t i k M ≤ m
      · exact h3
      · exact absurd (smN_mono (rpZ_sm t i k M) (show m + 1 ≤ rpZ t i k M by omega)) hx
  rcases h with rfl | ⟨h3, h4⟩
  · omega
  · have := rpZ_max h3 M h4
    omega
attribute [local irreducible] tm pt tuneB samB subL lrI lrZ rpZ smN in
set_option maxHeartbeats 1600000 in
theorem impl_Rep_ok (A : Option Addr) (c : Nat) (t : List (Int × Int)) (w : World) (hrd : RdN w A t) (hc : t.length ≤ c) (hcm : c ≤ maxLen) (hl : t.length ≤ 100000) (hB : tuneB t = true) :
    Calls Try.prog 17 #[.slice A t.length c] w fun e w' => e = .returned (.int .i64 (lrZ t t.length : Nat)) ∧ Below w.heap.size w w' := by
  have HB := Lib.hid hB
  unfold maxLen at hcm
  clear hB
  go_enter Try.func17, Try.ntmps17
  go_wp2_with fail
  refine (impl_TuneOk _ _ _ _ hrd (by omega)).mono ?_
  rintro e w1 ⟨rfl, hb1⟩
  rw [HB.out]
  have hr1 := hrd.below hb1 rfl
  clear hrd
  go_wp2
  go_loopw [3, 12] (fun q i wr => ∃ k : Nat, k ≤ t.length ∧ i = .int .i64 k ∧ q = .int .i64 (lrZ t k : Nat) ∧ Below w1.heap.size w1 wr) (fun _ i _ => t.length - (intOf i).toNat)
  case atStart => exact ⟨0, by omega, rfl, by unfold lrZ; rfl, Below.refl _ _⟩
  case round =>
    obtain ⟨i, hi, rfl, rfl, hb⟩ := hrel
    have hz := lrZ_le t i
    by_cases hli : i < t.length
    · have HI0 := Lib.hid (show lrI t i (lrZ t i) (i + 1 - (i + 1)) = lrZ t i by rw [show i + 1 - (i + 1) = 0 by omega, lrI])
      go_wp2
      go_loopw [3, 5] (fun q j wr => ∃ k : Nat, i + 1 ≤ k ∧ k ≤ t.length ∧ j = .int .i64 k ∧ q = .int .i64 (lrI t i (lrZ t i) (k - (i + 1)) : Nat) ∧ Below w1.heap.size w1 wr) (fun _ j _ => t.length - (intOf j).toNat)
      case atStart => exact ⟨i + 1, by omega, by omega, by go_num, by rw [HI0.out], hb⟩
      case round =>
        obtain ⟨k, hk1, hk2, rfl, rfl, hbk⟩ := hrel
        have hy := lrI_le t i (lrZ t i) hz (k - (i + 1))
        by_cases hlk : k < t.length
        · obtain ⟨a, ha⟩ : ∃ a, a = lrI t i (lrZ t i) (k - (i + 1)) := ⟨_, rfl⟩
          have HA := Lib.hid (lrI_at (t := t) (a := lrZ t i) hk1)
          rw [← ha] at HA hy ⊢
          clear ha
          go_wp2
          go_loopw [3, 6] (fun q j wt => ∃ m : Nat, a ≤ m ∧ m ≤ t.length ∧ q = .int .i64 m ∧ j = .int .i64 ((m : Int) + 1) ∧ (m = a ∨ (smN t i k m ∧ m ≤ t.length - k)) ∧ Below w1.heap.size w1 wt) (fun _ j _ => t.length + 2 - (intOf j).toNat)
          case atStart => exact ⟨a, by omega, hy, rfl, rfl, Or.inl rfl, hbk⟩
          case round =>
            obtain ⟨m, hm1, hm2, rfl, rfl, hor, hbt⟩ := hrel
            have HOR := Lib.hid hor
            clear hor
            have W1 := Lib.hid (show IntKind.i64.wrap ((k : Int) + ((m : Int) + 1)) = (k : Int) + ((m : Int) + 1) from IntWalk.i64_in _ (by omega))
            have W2 := Lib.hid (show IntKind.i64.wrap ((i : Int) + ((m : Int) + 1)) = (i : Int) + ((m : Int) + 1) from IntWalk.i64_in _ (by omega))
            by_cases hg : k + (m + 1) ≤ t.length
            · have e1 : (k : Int) + ((m : Int) + 1) ≤ (t.length : Int) := by omega
              have e2 : (i : Int) + ((m : Int) + 1) ≤ (t.length : Int) := by omega
              have e3 : (i : Int) + ((m : Int) + 1) ≤ (c : Int) := by omega
              have e4 : (k : Int) + ((m : Int) + 1) ≤ (c : Int) := by omega
              have e5 : (0 : Int) ≤ (i : Int) + ((m : Int) + 1) := by omega
              have e6 : (0 : Int) ≤ (k : Int) + ((m : Int) + 1) := by omega
              have e7 : (i : Int) ≤ (i : Int) + ((m : Int) + 1) := by omega
              have e8 : (k : Int) ≤ (k : Int) + ((m : Int) + 1) := by omega
              have e9 : (0 : Int) ≤ (i : Int) := by omega
              have e10 : (0 : Int) ≤ (k : Int) := by omega
              have hsb := fun h => samB_sub (t := t) (i := i) (k := k) (n := m + 1) h (by omega) hg
              have HSB := Lib.hid (hsb HB.out)
              clear hsb
              by_cases hS : smN t i k (m + 1)
              · have HG := Lib.hid hS
                have HS := Lib.hid (HSB.out.trans (decide_eq_true hS))
                clear hS
                go_wp2_with fail
                have v1 := W1.out
                have v2 := W2.out
                go_region_held3 (fun w' => Below w1.heap.size w1 w') (first | exact hbt.drew | exact Below.trans (by assumption) (hbz.mono (Below.size (by assumption))))
                  (first | (go_at_call 72; refine (impl_same_any _ _ A t i k (m + 1) _ _ _ (slc_eq (by omega) (by omega)) (slc_eq (by omega) (by omega)) (hr1.below (by assumption) rfl) (by omega) (by omega) (by omega)).mono ?_; rintro e wz ⟨rfl, hbz⟩; rw [HS.out]))
                clear v1 v2
                rename_i hH
                go_wp2
                go_roundw
                case rel => exact ⟨m + 1, by omega, by omega, by go_num, by go_num, Or.inr ⟨HG.out, by omega⟩, hH⟩
                case measure => simp [intOf]; omega
              · have HS := Lib.hid (HSB.out.trans (decide_eq_false hS))
                have HN := Lib.hid (rep_step hm1 HOR.out (Or.inr hS))
                clear hS
                go_wp2_with fail
                have v1 := W1.out
                have v2 := W2.out
                go_region_held3 (fun w' => Below w1.heap.size w1 w') (first | exact hbt.drew | exact Below.trans (by assumption) (hbz.mono (Below.size (by assumption))))
                  (first | (go_at_call 72; refine (impl_same_any _ _ A t i k (m + 1) _ _ _ (slc_eq (by omega) (by omega)) (slc_eq (by omega) (by omega)) (hr1.below (by assumption) rfl) (by omega) (by omega) (by omega)).mono ?_; rintro e wz ⟨rfl, hbz⟩; rw [HS.out]))
                clear v1 v2
                rename_i hH
                go_wp2
                go_roundw
                case rel => exact ⟨k + 1, by omega, by omega, by go_num, by rw [HA.out, HN.out], hH⟩
                case measure => simp [intOf]; omega
            · have HN := Lib.hid (rep_step (M := t.length - k) hm1 HOR.out (Or.inl (by omega)))
              have hgd : decide ((k : Int) + ((m : Int) + 1) ≤ (t.length : Int)) = false := decide_eq_false (by omega)
              go_wp2_with fail
              have v1 := W1.out
              go_quiet (fail)
              clear v1
              go_wp2
              go_roundw
              case rel => exact ⟨k + 1, by omega, by omega, by go_num, by rw [HA.out, HN.out], bel_drewN hbt _⟩
              case measure => simp [intOf]; omega
        · obtain rfl : k = t.length := by omega
          have HZ := Lib.hid (show lrZ t (i + 1) = lrI t i (lrZ t i) (t.length - (i + 1)) by rw [lrZ])
          go_wp2
          go_roundw
          case rel => exact ⟨i + 1, by omega, by go_num, by rw [HZ.out], hbk⟩
          case measure => simp [intOf]; omega
    · obtain rfl : i = t.length := by omega
      go_wp2
      go_ret
      exact ⟨rfl, hb1.trans (hb.mono hb1.size)⟩
end Go.Proofs.Ytjfaodbjmanfnaa
