/- RoundHarsh and BestRound. -/
import Derived.Test.YtajlopigpppeaaaWith
import Derived.Test.YtajlopigpppeaaaHarPW
namespace Go.Proofs.Ytajlopigpppeaaa
open Go.ChangeShapes Go.WideShapes Go.ChangeAt Go.RowKit
set_option linter.unusedVariables false
noncomputable def rndZ (l : List (Int × Int)) (n : Int) : Int := if winB l n = true then hpZ (winR l n) else -1
theorem rnd_yes {l : List (Int × Int)} {n : Int} (h : winB l n = true) : rndZ l n = hpZ (winR l n) := if_pos h
theorem rnd_no {l : List (Int × Int)} {n : Int} (h : winB l n = false) : rndZ l n = -1 := by unfold rndZ; rw [h]; rfl
theorem rnd_bd (l : List (Int × Int)) (n : Int) : -1 ≤ rndZ l n ∧ rndZ l n ≤ 1600 := by
  cases h : winB l n
  · rw [rnd_no h]; omega
  · rw [rnd_yes h]; exact hpZ_bd _
attribute [local irreducible] tm pt tuneB winR winB hpZ in
set_option maxHeartbeats 1600000 in
theorem impl_Rnd (A : Option Addr) (c : Nat) (l : List (Int × Int)) (n : Int) (w : World) (hrd : RdN w A l) (hl : l.length ≤ 1000000000) (hA : A = none → c = 0) :
    Calls Try.prog 27 #[.slice A l.length c, .int .i64 n] w fun e w' => e = .returned (.int .i64 (rndZ l n)) ∧ Below w.heap.size w w' := by
  have HL := Lib.hid (winR_len l n)
  cases h2 : winB l n
  · have HX := Lib.hid (rnd_no h2)
    have H2 := Lib.hid h2
    clear h2
    go_enter Try.func27, Try.ntmps27
    go_wp2_with fail
    refine (impl_With _ _ _ _ _ hrd hl hA).mono ?_
    rintro e w1 ⟨A1, c1, rfl, ho1, _, _, _, hr1, hb1⟩
    rw [H2.out]
    go_wp2
    go_ret
    exact ⟨ret_int HX.out.symm, hb1⟩
  · have HX := Lib.hid (rnd_yes h2)
    have H2 := Lib.hid h2
    clear h2
    go_enter Try.func27, Try.ntmps27
    go_wp2_with fail
    refine (impl_With _ _ _ _ _ hrd hl hA).mono ?_
    rintro e w1 ⟨A1, c1, rfl, ho1, hc1, hm1, _, hr1, hb1⟩
    rw [H2.out]
    have hl40 := HL.out
    go_wp2_with fail
    refine (impl_HarP _ _ _ _ hr1 (by omega) (by assumption) (by assumption)).mono ?_
    rintro e w2 ⟨rfl, hb2⟩
    go_wp2
    go_ret
    exact ⟨ret_int HX.out.symm, hb1.trans (hb2.mono hb1.size)⟩
attribute [local irreducible] tm pt tuneB winR winB hpZ in
set_option maxHeartbeats 1600000 in
theorem spec_Rnd (A : Option Addr) (c : Nat) (l : List (Int × Int)) (n : Int) (w : World) (hrd : RdN w A l) (hl : l.length ≤ 1000000000) (hA : A = none → c = 0) :
    Calls Try.prog 39 #[.slice A l.length c, .int .i64 n] w fun e w' => e = .returned (.int .i64 (rndZ l n)) ∧ Below w.heap.size w w' := by
  have HL := Lib.hid (winR_len l n)
  cases h2 : winB l n
  · have HX := Lib.hid (rnd_no h2)
    have H2 := Lib.hid h2
    clear h2
    go_enter Try.func39, Try.ntmps39
    go_wp2_with fail
    refine (spec_With _ _ _ _ _ hrd hl hA).mono ?_
    rintro e w1 ⟨A1, c1, rfl, ho1, _, _, _, hr1, hb1⟩
    rw [H2.out]
    go_wp2
    go_ret
    exact ⟨ret_int HX.out.symm, hb1⟩
  · have HX := Lib.hid (rnd_yes h2)
    have H2 := Lib.hid h2
    clear h2
    go_enter Try.func39, Try.ntmps39
    go_wp2_with fail
    refine (spec_With _ _ _ _ _ hrd hl hA).mono ?_
    rintro e w1 ⟨A1, c1, rfl, ho1, hc1, hm1, _, hr1, hb1⟩
    rw [H2.out]
    have hl40 := HL.out
    go_wp2_with fail
    refine (spec_HarP _ _ _ _ hr1 (by omega) (by assumption) (by assumption)).mono ?_
    rintro e w2 ⟨rfl, hb2⟩
    go_wp2
    go_ret
    exact ⟨ret_int HX.out.symm, hb1.trans (hb2.mono hb1.size)⟩
/-- The best round among the first k. -/
noncomputable def brnTo (l : List (Int × Int)) : Nat → Int × Int
  | 0 => (-1, 0)
  | k + 1 => if 0 ≤ rndZ l ((k : Int) + 1) ∧ ((brnTo l k).1 < 0 ∨ rndZ l ((k : Int) + 1) < (brnTo l k).2) then ((k : Int) + 1, rndZ l ((k : Int) + 1)) else brnTo l k
noncomputable def brnA (l : List (Int × Int)) (k : Nat) : Int := (brnTo l k).1
noncomputable def brnC (l : List (Int × Int)) (k : Nat) : Int := (brnTo l k).2
theorem brn_zero (l : List (Int × Int)) : brnA l 0 = -1 ∧ brnC l 0 = 0 := ⟨rfl, rfl⟩
theorem brn_yes {l : List (Int × Int)} {k : Nat} (h : 0 ≤ rndZ l ((k : Int) + 1) ∧ (brnA l k < 0 ∨ rndZ l ((k : Int) + 1) < brnC l k)) : brnA l (k + 1) = (k : Int) + 1 ∧ brnC l (k + 1) = rndZ l ((k : Int) + 1) := by
  have e : brnTo l (k + 1) = ((k : Int) + 1, rndZ l ((k : Int) + 1)) := if_pos h
  exact ⟨by unfold brnA; rw [e], by unfold brnC; rw [e]⟩
theorem brn_no {l : List (Int × Int)} {k : Nat} (h : ¬ (0 ≤ rndZ l ((k : Int) + 1) ∧ (brnA l k < 0 ∨ rndZ l ((k : Int) + 1) < brnC l k))) : brnA l (k + 1) = brnA l k ∧ brnC l (k + 1) = brnC l k := by
  have e : brnTo l (k + 1) = brnTo l k := if_neg h
  exact ⟨by unfold brnA; rw [e], by unfold brnC; rw [e]⟩
theorem brn_bd (l : List (Int × Int)) : ∀ k : Nat, -1 ≤ brnA l k ∧ brnA l k ≤ (k : Int) ∧ -1 ≤ brnC l k ∧ brnC l k ≤ 1600
  | 0 => by rw [(brn_zero l).1, (brn_zero l).2]; omega
  | k + 1 => by
    have h1 := brn_bd l k
    have h2 := rnd_bd l ((k : Int) + 1)
    by_cases h : 0 ≤ rndZ l ((k : Int) + 1) ∧ (brnA l k < 0 ∨ rndZ l ((k : Int) + 1) < brnC l k)
    · rw [(brn_yes h).1, (brn_yes h).2]; omega
    · rw [(brn_no h).1, (brn_no h).2]; omega
noncomputable def brnZ (l : List (Int × Int)) (m : Int) : Int := if tuneB l = true ∧ (1 ≤ m ∧ m ≤ 100) then brnA l m.toNat else -1
theorem brnZ_no {l : List (Int × Int)} {m : Int} (h : ¬ (tuneB l = true ∧ (1 ≤ m ∧ m ≤ 100))) : brnZ l m = -1 := if_neg h
theorem brnZ_yes {l : List (Int × Int)} {m : Int} (h : tuneB l = true ∧ (1 ≤ m ∧ m ≤ 100)) : brnZ l m = brnA l m.toNat := if_pos h
end Go.Proofs.Ytajlopigpppeaaa
