/- The program's and the reference's CountSymmetries return the same for every number. -/
import Derived.Test.YtjfaodbjmanfnaaScaleA
import Derived.Test.YtjfaodbjmanfnaaIn
namespace Go.Proofs.Ytjfaodbjmanfnaa
open Go.ChangeShapes Go.WideShapes Go.ChangeAt Go.RowKit
set_option linter.unusedVariables false
/-- How many of the first k turns leave the set as it is. -/
def symTo (s : Int) : Nat → Int
  | 0 => 0
  | k + 1 => symTo s k + (if rotZ s (k : Int) = s then 1 else 0)
theorem symTo_bd (s : Int) (k : Nat) : 0 ≤ symTo s k ∧ symTo s k ≤ k := by
  induction k with
  | zero => simp [symTo]
  | succ k ih => unfold symTo; split <;> omega
def symZ (s : Int) : Int := if 0 ≤ s ∧ s ≤ 4095 then symTo s 12 else -1
set_option maxHeartbeats 800000 in
theorem impl_Sym (s : Int) (w : World) : Calls Try.prog 65 #[.int .i64 s] w fun e w' => e = .returned (.int .i64 (symZ s)) ∧ Below w.heap.size w w' := by
  by_cases h : 0 ≤ s ∧ s ≤ 4095
  · have HV : Hid (symZ s = symTo s 12) := if_pos h
    obtain ⟨h1, h2⟩ := h
    go_enter Try.func65, Try.ntmps65
    go_wp2_with (first | (go_at_call 73; refine (wi_yes _ _ _ _ ?_).mono ?_; omega; rintro e w1 ⟨rfl, rfl⟩) | (go_at_call 73; refine (wi_no _ _ _ _ ?_).mono ?_; omega; rintro e w1 ⟨rfl, rfl⟩))
    go_loopw [3, 4] (fun n b wr => ∃ k : Nat, k ≤ 12 ∧ b = .int .i64 k ∧ n = .int .i64 (symTo s k) ∧ Below w.heap.size w wr) (fun _ b _ => (12 - intOf b).toNat)
    case atStart => exact ⟨0, by omega, rfl, rfl, Below.refl _ _⟩
    case round =>
      obtain ⟨k, hk, rfl, rfl, hb⟩ := hrel
      obtain ⟨hs1, hs2⟩ := symTo_bd s k
      have hBs := hb.size
      by_cases hlt : k < 12
      · have hlt' : (k : Int) < 12 := by omega
        by_cases he : rotZ s (k : Int) = s
        · have HS : Hid (symTo s (k + 1) = symTo s k + 1) := by unfold Hid; rw [symTo, if_pos he]
          have hq : (rotZ s (k : Int) == s) = true := by simpa using he
          clear he
          go_wp2_with (go_at_call 64; refine (impl_Rotate _ _ _).mono ?_; rintro e w1 ⟨rfl, hb1⟩)
          go_roundw
          case rel => exact ⟨k + 1, by omega, by go_num, by rw [HS.out], hb.trans (hb1.mono hBs)⟩
          case measure => simp [intOf]; omega
        · have HS : Hid (symTo s (k + 1) = symTo s k) := by unfold Hid; rw [symTo, if_neg he]; omega
          have hq : (rotZ s (k : Int) == s) = false := by simpa using he
          clear he
          go_wp2_with (go_at_call 64; refine (impl_Rotate _ _ _).mono ?_; rintro e w1 ⟨rfl, hb1⟩)
          go_roundw
          case rel => exact ⟨k + 1, by omega, by go_num, by rw [HS.out], hb.trans (hb1.mono hBs)⟩
          case measure => simp [intOf]; omega
      · obtain rfl : k = 12 := by omega
        go_wp2
        go_ret
        exact ⟨ret_int (by rw [HV.out]), hb⟩
  · have HV : Hid (symZ s = -1) := if_neg h
    go_enter Try.func65, Try.ntmps65
    go_wp2_with (first | (go_at_call 73; refine (wi_yes _ _ _ _ ?_).mono ?_; omega; rintro e w1 ⟨rfl, rfl⟩) | (go_at_call 73; refine (wi_no _ _ _ _ ?_).mono ?_; omega; rintro e w1 ⟨rfl, rfl⟩))
    go_ret
    exact ⟨ret_int HV.out.symm, Below.refl _ _⟩
end Go.Proofs.Ytjfaodbjmanfnaa
