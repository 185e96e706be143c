/- How many motifs of a length a tune has. -/
import Derived.Test.YtjfaodbjmanfnaaSame
import Derived.Test.YtjfaodbjmanfnaaPart
namespace Go.Proofs.Ytjfaodbjmanfnaa
open Go.ChangeShapes Go.WideShapes Go.ChangeAt Go.RowKit
set_option linter.unusedVariables false
noncomputable def frTo (t : List (Int × Int)) (n k : Nat) : Nat → Bool
  | 0 => true
  | i + 1 => frTo t n k i && !samB (subL t i n) (subL t k n)
theorem fr_no {t : List (Int × Int)} {n k i : Nat} (h : samB (subL t i n) (subL t k n) = true) : frTo t n k (i + 1) = false := by unfold frTo; rw [h]; simp
theorem fr_yes {t : List (Int × Int)} {n k i : Nat} (h0 : frTo t n k i = true) (h : samB (subL t i n) (subL t k n) = false) : frTo t n k (i + 1) = true := by unfold frTo; rw [h0, h]; rfl
theorem fr_keep {t : List (Int × Int)} {n k i : Nat} (h : frTo t n k i = false) : frTo t n k (i + 1) = false := by unfold frTo; rw [h]; rfl
theorem fr_far {t : List (Int × Int)} {n k i : Nat} (h : frTo t n k i = false) : ∀ j, frTo t n k (i + j) = false
  | 0 => h
  | j + 1 => fr_keep (fr_far h j)
theorem fr_out {t : List (Int × Int)} {n k i : Nat} (hi : i < k) (h : samB (subL t i n) (subL t k n) = true) : frTo t n k k = false := by
  have := fr_far (fr_no h) (k - (i + 1))
  rwa [show i + 1 + (k - (i + 1)) = k by omega] at this
noncomputable def cmZ (t : List (Int × Int)) (n : Nat) : Nat → Int
  | 0 => 0
  | k + 1 => if frTo t n k k = true then cmZ t n k + 1 else cmZ t n k
theorem cm_yes {t : List (Int × Int)} {n k : Nat} (h : frTo t n k k = true) : cmZ t n (k + 1) = cmZ t n k + 1 := if_pos h
theorem cm_no {t : List (Int × Int)} {n k : Nat} (h : frTo t n k k = false) : cmZ t n (k + 1) = cmZ t n k := if_neg (by rw [h]; simp)
theorem cmZ_rng (t : List (Int × Int)) (n : Nat) : ∀ k, 0 ≤ cmZ t n k ∧ cmZ t n k ≤ (k : Int)
  | 0 => ⟨Int.le_refl _, Int.le_refl _⟩
  | k + 1 => by have := cmZ_rng t n k; unfold cmZ; split <;> omega
theorem slc_eq {c i n m : Nat} {A X : Option Addr} (h : ¬ c = i) (hm : m = n) : Value.slice (if c = i then A else X) m (c - i) = Value.slice X n (c - i) := by rw [if_neg h, hm]
theorem impl_same_sub (A : Option Addr) (t : List (Int × Int)) (i k n c d : Nat) (w : World) (hrd : RdN w A t) (hi : i + n ≤ t.length) (hk : k + n ≤ t.length) (hl : t.length ≤ 1000000000) :
    Calls Try.prog 72 #[.slice (Option.map (fun x => x.add (i * 2)) A) n c, .slice (Option.map (fun x => x.add (k * 2)) A) n d] w fun e w' => e = .returned (.bool (samB (subL t i n) (subL t k n))) ∧ Below w.heap.size w w' := by
  have h := impl_Same (Option.map (fun x => x.add (i * 2)) A) (Option.map (fun x => x.add (k * 2)) A) c d (subL t i n) (subL t k n) w (subL_map hi hrd) (subL_map hk hrd) (by rw [subL_len hi]; omega) (by rw [subL_len hk]; omega)
  rw [subL_len hi, subL_len hk] at h
  exact h
theorem impl_same_any (v1 v2 : Value) (A : Option Addr) (t : List (Int × Int)) (i k n c d : Nat) (w : World) (h1 : v1 = .slice (Option.map (fun x => x.add (i * 2)) A) n c) (h2 : v2 = .slice (Option.map (fun x => x.add (k * 2)) A) n d) (hrd : RdN w A t) (hi : i + n ≤ t.length) (hk : k + n ≤ t.length) (hl : t.length ≤ 1000000000) :
    Calls Try.prog 72 #[v1, v2] w fun e w' => e = .returned (.bool (samB (subL t i n) (subL t k n))) ∧ Below w.heap.size w w' := by
  rw [h1, h2]; exact impl_same_sub A t i k n c d w hrd hi hk hl
theorem spec_same_sub (A : Option Addr) (t : List (Int × Int)) (i k n c d : Nat) (w : World) (hrd : RdN w A t) (hi : i + n ≤ t.length) (hk : k + n ≤ t.length) (hl : t.length ≤ 1000000000) :
    Calls Try.prog 80 #[.slice (Option.map (fun x => x.add (i * 2)) A) n c, .slice (Option.map (fun x => x.add (k * 2)) A) n d] w fun e w' => e = .returned (.bool (samB (subL t i n) (subL t k n))) ∧ Below w.heap.size w w' := by
  have h := spec_Same (Option.map (fun x => x.add (i * 2)) A) (Option.map (fun x => x.add (k * 2)) A) c d (subL t i n) (subL t k n) w (subL_map hi hrd) (subL_map hk hrd) (by rw [subL_len hi]; omega) (by rw [subL_len hk]; omega)
  rw [subL_len hi, subL_len hk] at h
  exact h
theorem spec_same_any (v1 v2 : Value) (A : Option Addr) (t : List (Int × Int)) (i k n c d : Nat) (w : World) (h1 : v1 = .slice (Option.map (fun x => x.add (i * 2)) A) n c) (h2 : v2 = .slice (Option.map (fun x => x.add (k * 2)) A) n d) (hrd : RdN w A t) (hi : i + n ≤ t.length) (hk : k + n ≤ t.length) (hl : t.length ≤ 1000000000) :
    Calls Try.prog 80 #[v1, v2] w fun e w' => e = .returned (.bool (samB (subL t i n) (subL t k n))) ∧ Below w.heap.size w w' := by
  rw [h1, h2]; exact spec_same_sub A t i k n c d w hrd hi hk hl
attribute [local irreducible] tm pt tuneB frTo cmZ samB subL in
set_option maxHeartbeats 1600000 in
theorem impl_Mot_ok (A : Option Addr) (c : Nat) (t : List (Int × Int)) (n : Nat) (w : World) (hrd : RdN w A t) (hc : t.length ≤ c) (hcm : c ≤ maxLen) (hl : t.length ≤ 100000) (hB : tuneB t = true) (hn : 1 ≤ n ∧ n ≤ 40) :
    Calls Try.prog 18 #[.slice A t.length c, .int .i64 n] w fun e w' => e = .returned (.int .i64 (cmZ t n (t.length + 1 - n))) ∧ Below w.heap.size w w' := by
  have HB := Lib.hid hB
  have hn2 : (1 : Int) ≤ (n : Int) ∧ (n : Int) ≤ 40 := by omega
  unfold maxLen at hcm
  clear hB
  go_enter Try.func18, Try.ntmps18
  go_wp2_with fail
  refine (impl_TuneOk _ _ _ _ hrd (by omega)).mono ?_
  rintro e w1 ⟨rfl, hb1⟩
  rw [HB.out]
  have hr1 := hrd.below hb1 rfl
  clear hrd
  go_wp2_with fail
  refine (wi_yes _ _ _ _ hn2).mono ?_
  rintro e wz ⟨rfl, rfl⟩
  go_wp2
  go_loopw [5, 6] (fun q i wr => ∃ k : Nat, k ≤ t.length + 1 - n ∧ i = .int .i64 k ∧ q = .int .i64 (cmZ t n k) ∧ Below w1.heap.size w1 wr) (fun _ i _ => t.length + 1 - (intOf i).toNat)
  case atStart => exact ⟨0, by omega, rfl, by unfold cmZ; rfl, Below.refl _ _⟩
  case round =>
    obtain ⟨k, hk, rfl, rfl, hb⟩ := hrel
    have hcr := cmZ_rng t n k
    by_cases hlt : k + n ≤ t.length
    · have hlt2 : (k : Int) + (n : Int) ≤ (t.length : Int) := by omega
      go_wp2
      go_loopw [7] (fun i wt => ∃ i' : Nat, i' ≤ k ∧ i = .int .i64 i' ∧ frTo t n k i' = true ∧ Below w1.heap.size w1 wt) (fun i _ => k - (intOf i).toNat)
      case atStart => exact ⟨0, by omega, rfl, by unfold frTo; rfl, hb⟩
      case round =>
        obtain ⟨i, hi, rfl, hF, hbt⟩ := hrel
        have HF := Lib.hid hF
        clear hF
        by_cases hli : i < k
        · have e1 : (i : Int) < (k : Int) := by omega
          have e2 : (i : Int) + (n : Int) ≤ (t.length : Int) := by omega
          have e3 : (i : Int) + (n : Int) ≤ (c : Int) := by omega
          have e4 : (k : Int) + (n : Int) ≤ (c : Int) := by omega
          have e5 : (0 : Int) ≤ (i : Int) + (n : Int) := by omega
          have e6 : (0 : Int) ≤ (k : Int) + (n : Int) := by omega
          have e7 : (i : Int) ≤ (i : Int) + (n : Int) := by omega
          have e8 : (k : Int) ≤ (k : Int) + (n : Int) := by omega
          have e9 : (0 : Int) ≤ (i : Int) := by omega
          have e10 : (0 : Int) ≤ (k : Int) := by omega
          have W1 := Lib.hid (show IntKind.i64.wrap ((i : Int) + (n : Int)) = (i : Int) + (n : Int) from IntWalk.i64_in _ (by omega))
          have W2 := Lib.hid (show IntKind.i64.wrap ((k : Int) + (n : Int)) = (k : Int) + (n : Int) from IntWalk.i64_in _ (by omega))
          cases hS : samB (subL t i n) (subL t k n)
          · have HS := Lib.hid hS
            have HN := Lib.hid (fr_yes HF.out hS)
            clear hS
            go_wp2_with fail
            have v1 := W1.out
            have v2 := W2.out
            go_region_held3 (fun w' => Below w1.heap.size w1 w') (first | exact hbt.drew | exact Below.trans (by assumption) (hbz.mono (Below.size (by assumption))))
              (first | (go_at_call 72; refine (impl_same_any _ _ A t i k n _ _ _ (slc_eq (by omega) (by omega)) (slc_eq (by omega) (by omega)) (hr1.below (by assumption) rfl) (by omega) (by omega) (by omega)).mono ?_; rintro e wz ⟨rfl, hbz⟩; rw [HS.out]))
            clear v1 v2
            rename_i hH
            go_wp2
            go_roundw
            case rel => exact ⟨i + 1, by omega, by go_num, HN.out, hH⟩
            case measure => simp [intOf]; omega
          · have HS := Lib.hid hS
            have HN := Lib.hid (cm_no (fr_out hli hS))
            have hqk : ((i : Int) == (k : Int)) = false := by rw [beq_eq_false_iff_ne]; omega
            clear hS
            go_wp2_with fail
            have v1 := W1.out
            have v2 := W2.out
            go_region_held3 (fun w' => Below w1.heap.size w1 w') (first | exact hbt.drew | exact Below.trans (by assumption) (hbz.mono (Below.size (by assumption))))
              (first | (go_at_call 72; refine (impl_same_any _ _ A t i k n _ _ _ (slc_eq (by omega) (by omega)) (slc_eq (by omega) (by omega)) (hr1.below (by assumption) rfl) (by omega) (by omega) (by omega)).mono ?_; rintro e wz ⟨rfl, hbz⟩; rw [HS.out]))
            clear v1 v2
            rename_i hH
            go_wp2
            go_roundw
            case rel => exact ⟨k + 1, by omega, by go_num, by rw [HN.out], hH⟩
            case measure => simp [intOf]; omega
        · obtain rfl : i = k := by omega
          have HN := Lib.hid (cm_yes HF.out)
          have hg : decide ((i : Int) < (i : Int)) = false := decide_eq_false (by omega)
          go_wp2_with fail
          go_quiet (fail)
          go_wp2
          go_roundw
          case rel => exact ⟨i + 1, by omega, by go_num, by rw [HN.out], bel_drewN hbt _⟩
          case measure => simp [intOf]; omega
    · have hlt2 : ¬ (k : Int) + (n : Int) ≤ (t.length : Int) := by omega
      have HE := Lib.hid (show k = t.length + 1 - n by omega)
      go_wp2
      go_ret
      exact ⟨ret_int (by rw [← HE.out]), hb1.trans (hb.mono hb1.size)⟩
attribute [local irreducible] tm pt tuneB frTo cmZ samB subL in
set_option maxHeartbeats 1600000 in
theorem spec_Mot_ok (A : Option Addr) (c : Nat) (t : List (Int × Int)) (n : Nat) (w : World) (hrd : RdN w A t) (hc : t.length ≤ c) (hcm : c ≤ maxLen) (hl : t.length ≤ 100000) (hB : tuneB t = true) (hn : 1 ≤ n ∧ n ≤ 40) :
    Calls Try.prog 28 #[.slice A t.length c, .int .i64 n] w fun e w' => e = .returned (.int .i64 (cmZ t n (t.length + 1 - n))) ∧ Below w.heap.size w w' := by
  have HB := Lib.hid hB
  have hn2 : (1 : Int) ≤ (n : Int) ∧ (n : Int) ≤ 40 := by omega
  unfold maxLen at hcm
  clear hB
  go_enter Try.func28, Try.ntmps28
  go_wp2_with fail
  refine (spec_TuneOk _ _ _ _ hrd (by omega)).mono ?_
  rintro e w1 ⟨rfl, hb1⟩
  rw [HB.out]
  have hr1 := hrd.below hb1 rfl
  clear hrd
  go_wp2_with fail
  refine (in_yes _ _ _ _ hn2).mono ?_
  rintro e wz ⟨rfl, rfl⟩
  go_wp2
  go_loopw [5, 6] (fun q i wr => ∃ k : Nat, k ≤ t.length + 1 - n ∧ i = .int .i64 k ∧ q = .int .i64 (cmZ t n k) ∧ Below w1.heap.size w1 wr) (fun _ i _ => t.length + 1 - (intOf i).toNat)
  case atStart => exact ⟨0, by omega, rfl, by unfold cmZ; rfl, Below.refl _ _⟩
  case round =>
    obtain ⟨k, hk, rfl, rfl, hb⟩ := hrel
    have hcr := cmZ_rng t n k
    by_cases hlt : k + n ≤ t.length
    · have hlt2 : (k : Int) + (n : Int) ≤ (t.length : Int) := by omega
      go_wp2
      go_loopw [7, 8] (fun f i wt => ∃ i' : Nat, i' ≤ k ∧ i = .int .i64 i' ∧ f = .bool (frTo t n k i') ∧ Below w1.heap.size w1 wt) (fun _ i _ => k - (intOf i).toNat)
      case atStart => exact ⟨0, by omega, rfl, by unfold frTo; rfl, hb⟩
      case round =>
        obtain ⟨i, hi, rfl, rfl, hbt⟩ := hrel
        by_cases hli : i < k
        · have e1 : (i : Int) < (k : Int) := by omega
          have e2 : (i : Int) + (n : Int) ≤ (t.length : Int) := by omega
          have e3 : (i : Int) + (n : Int) ≤ (c : Int) := by omega
          have e4 : (k : Int) + (n : Int) ≤ (c : Int) := by omega
          have e5 : (0 : Int) ≤ (i : Int) + (n : Int) := by omega
          have e6 : (0 : Int) ≤ (k : Int) + (n : Int) := by omega
          have e7 : (i : Int) ≤ (i : Int) + (n : Int) := by omega
          have e8 : (k : Int) ≤ (k : Int) + (n : Int) := by omega
          have e9 : (0 : Int) ≤ (i : Int) := by omega
          have e10 : (0 : Int) ≤ (k : Int) := by omega
          have W1 := Lib.hid (show IntKind.i64.wrap ((i : Int) + (n : Int)) = (i : Int) + (n : Int) from IntWalk.i64_in _ (by omega))
          have W2 := Lib.hid (show IntKind.i64.wrap ((k : Int) + (n : Int)) = (k : Int) + (n : Int) from IntWalk.i64_in _ (by omega))
          cases hF : frTo t n k i
          · have HN := Lib.hid (fr_keep hF)
            clear hF
            go_wp2_with fail
            go_quiet (fail)
            go_wp2
            go_roundw
            case rel => exact ⟨i + 1, by omega, by go_num, by rw [HN.out], bel_drewN hbt _⟩
            case measure => simp [intOf]; omega
          · cases hS : samB (subL t i n) (subL t k n)
            · have HS := Lib.hid hS
              have HN := Lib.hid (fr_yes hF hS)
              clear hF
              clear hS
              go_wp2_with fail
              have v1 := W1.out
              have v2 := W2.out
              go_region_held3 (fun w' => Below w1.heap.size w1 w') (first | exact hbt.drew | exact Below.trans (by assumption) (hbz.mono (Below.size (by assumption))))
                (first | (go_at_call 80; refine (spec_same_any _ _ A t i k n _ _ _ (slc_eq (by omega) (by omega)) (slc_eq (by omega) (by omega)) (hr1.below (by assumption) rfl) (by omega) (by omega) (by omega)).mono ?_; rintro e wz ⟨rfl, hbz⟩; rw [HS.out]))
              clear v1 v2
              rename_i hH
              go_wp2
              go_roundw
              case rel => exact ⟨i + 1, by omega, by go_num, by rw [HN.out], hH⟩
              case measure => simp [intOf]; omega
            · have HS := Lib.hid hS
              have HN := Lib.hid (fr_no hS)
              clear hF
              clear hS
              go_wp2_with fail
              have v1 := W1.out
              have v2 := W2.out
              go_region_held3 (fun w' => Below w1.heap.size w1 w') (first | exact hbt.drew | exact Below.trans (by assumption) (hbz.mono (Below.size (by assumption))))
                (first | (go_at_call 80; refine (spec_same_any _ _ A t i k n _ _ _ (slc_eq (by omega) (by omega)) (slc_eq (by omega) (by omega)) (hr1.below (by assumption) rfl) (by omega) (by omega) (by omega)).mono ?_; rintro e wz ⟨rfl, hbz⟩; rw [HS.out]))
              clear v1 v2
              rename_i hH
              go_wp2
              go_roundw
              case rel => exact ⟨i + 1, by omega, by go_num, by rw [HN.out], hH⟩
              case measure => simp [intOf]; omega
        · obtain rfl : i = k := by omega
          have hg : ¬ ((i : Int) < (i : Int)) := by omega
          cases hF : frTo t n i i
          · have HN := Lib.hid (cm_no hF)
            clear hF
            go_wp2
            go_roundw
            case rel => exact ⟨i + 1, by omega, by go_num, by rw [HN.out], hbt⟩
            case measure => simp [intOf]; omega
          · have HN := Lib.hid (cm_yes hF)
            clear hF
            go_wp2
            go_roundw
            case rel => exact ⟨i + 1, by omega, by go_num, by rw [HN.out], hbt⟩
            case measure => simp [intOf]; omega
    · have hlt2 : ¬ (k : Int) + (n : Int) ≤ (t.length : Int) := by omega
      have HE := Lib.hid (show k = t.length + 1 - n by omega)
      go_wp2
      go_ret
      exact ⟨ret_int (by rw [← HE.out]), hb1.trans (hb.mono hb1.size)⟩
def motOk (t : List (Int × Int)) (n : Int) : Prop := tuneB t = true ∧ 1 ≤ n ∧ n ≤ 40
noncomputable instance (t : List (Int × Int)) (n : Int) : Decidable (motOk t n) := Classical.propDecidable _
noncomputable def motB (t : List (Int × Int)) (n : Int) : Int := if motOk t n then cmZ t n.toNat (t.length + 1 - n.toNat) else -1
theorem motB_no {t : List (Int × Int)} {n : Int} (h : ¬ motOk t n) : motB t n = -1 := if_neg h
theorem motB_at {t : List (Int × Int)} {n : Nat} (h : motOk t n) : motB t n = cmZ t n (t.length + 1 - n) := if_pos h
set_option maxHeartbeats 800000 in
theorem impl_Mot (A : Option Addr) (c : Nat) (t : List (Int × Int)) (n : Int) (w : World) (hrd : RdN w A t) (hc : t.length ≤ c) (hcm : c ≤ maxLen) (hl : t.length ≤ 1000000000) :
    Calls Try.prog 18 #[.slice A t.length c, .int .i64 n] w fun e w' => e = .returned (.int .i64 (motB t n)) ∧ Below w.heap.size w w' := by
  by_cases hok : motOk t n
  · obtain ⟨j, rfl⟩ := Int.eq_ofNat_of_zero_le (show 0 ≤ n by have := hok.2.1; omega)
    rw [motB_at hok]
    have h1 := (of_decide_eq_true hok.1 : tuneP t).2
    exact impl_Mot_ok A c t j w hrd hc hcm (by omega) hok.1 (by have := hok.2; omega)
  · have HV := Lib.hid (motB_no hok)
    cases hA : tuneB t
    · have HA := Lib.hid hA
      clear hA hok
      go_enter Try.func18, Try.ntmps18
      go_wp2_with fail
      refine (impl_TuneOk _ _ _ _ hrd (by omega)).mono ?_
      rintro e w1 ⟨rfl, hb1⟩
      rw [HA.out]
      go_wp2
      go_ret
      exact ⟨ret_int HV.out.symm, hb1⟩
    · have hn : ¬ (1 ≤ n ∧ n ≤ 40) := fun h => hok ⟨hA, h⟩
      have HA := Lib.hid hA
      clear hA hok
      go_enter Try.func18, Try.ntmps18
      go_wp2_with fail
      refine (impl_TuneOk _ _ _ _ hrd (by omega)).mono ?_
      rintro e w1 ⟨rfl, hb1⟩
      rw [HA.out]
      go_wp2_with fail
      refine (wi_no _ _ _ _ hn).mono ?_
      rintro e wz ⟨rfl, rfl⟩
      go_wp2
      go_ret
      exact ⟨ret_int HV.out.symm, hb1⟩
set_option maxHeartbeats 800000 in
theorem spec_Mot (A : Option Addr) (c : Nat) (t : List (Int × Int)) (n : Int) (w : World) (hrd : RdN w A t) (hc : t.length ≤ c) (hcm : c ≤ maxLen) (hl : t.length ≤ 1000000000) :
    Calls Try.prog 28 #[.slice A t.length c, .int .i64 n] w fun e w' => e = .returned (.int .i64 (motB t n)) ∧ Below w.heap.size w w' := by
  by_cases hok : motOk t n
  · obtain ⟨j, rfl⟩ := Int.eq_ofNat_of_zero_le (show 0 ≤ n by have := hok.2.1; omega)
    rw [motB_at hok]
    have h1 := (of_decide_eq_true hok.1 : tuneP t).2
    exact spec_Mot_ok A c t j w hrd hc hcm (by omega) hok.1 (by have := hok.2; omega)
  · have HV := Lib.hid (motB_no hok)
    cases hA : tuneB t
    · have HA := Lib.hid hA
      clear hA hok
      go_enter Try.func28, Try.ntmps28
      go_wp2_with fail
      refine (spec_TuneOk _ _ _ _ hrd (by omega)).mono ?_
      rintro e w1 ⟨rfl, hb1⟩
      rw [HA.out]
      go_wp2
      go_ret
      exact ⟨ret_int HV.out.symm, hb1⟩
    · have hn : ¬ (1 ≤ n ∧ n ≤ 40) := fun h => hok ⟨hA, h⟩
      have HA := Lib.hid hA
      clear hA hok
      go_enter Try.func28, Try.ntmps28
      go_wp2_with fail
      refine (spec_TuneOk _ _ _ _ hrd (by omega)).mono ?_
      rintro e w1 ⟨rfl, hb1⟩
      rw [HA.out]
      go_wp2_with fail
      refine (in_no _ _ _ _ hn).mono ?_
      rintro e wz ⟨rfl, rfl⟩
      go_wp2
      go_ret
      exact ⟨ret_int HV.out.symm, hb1⟩
end Go.Proofs.Ytjfaodbjmanfnaa
