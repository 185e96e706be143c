/- All places where a motif occurs. -/
import Derived.Test.YtjfaodbjmanfnaaOccI
import Derived.Test.YtjfaodbjmanfnaaApp
namespace Go.Proofs.Ytjfaodbjmanfnaa
open Go.ChangeShapes Go.WideShapes Go.ChangeAt Go.RowKit
set_option linter.unusedVariables false
noncomputable def ocsZ (t m : List (Int × Int)) : Nat → List Int
  | 0 => []
  | k + 1 => if occB t m (k : Int) = true then ocsZ t m k ++ [(k : Int)] else ocsZ t m k
theorem ocsZ_len (t m : List (Int × Int)) : ∀ k, (ocsZ t m k).length ≤ k
  | 0 => Nat.le_refl _
  | k + 1 => by have := ocsZ_len t m k; unfold ocsZ; split <;> simp <;> omega
theorem ocs_yes {t m : List (Int × Int)} {k : Nat} (h : occB t m (k : Int) = true) : ocsZ t m (k + 1) = ocsZ t m k ++ [(k : Int)] := if_pos h
theorem ocs_no {t m : List (Int × Int)} {k : Nat} (h : occB t m (k : Int) = false) : ocsZ t m (k + 1) = ocsZ t m k := if_neg (by rw [h]; simp)
attribute [local irreducible] ocsZ occB in
set_option maxHeartbeats 800000 in
theorem impl_Occs (A B : Option Addr) (c d : Nat) (t m : List (Int × Int)) (w : World) (hra : RdN w A t) (hrb : RdN w B m) (hla : t.length ≤ 100000000) (hlb : m.length ≤ 1000000000) :
    Calls Try.prog 21 #[.slice A t.length c, .slice B m.length d] w (RetI 3 w.heap.size (ocsZ t m t.length) w) := by
  go_enter Try.func21, Try.ntmps21
  go_wp2
  go_loopw [5, 10] (fun v i wr => ∃ k : Nat, k ≤ t.length ∧ i = .int .i64 k ∧ OwnI 3 w.heap.size wr v (ocsZ t m k) ∧ Below w.heap.size w wr) (fun _ i _ => t.length - (intOf i).toNat)
  case atStart => exact ⟨0, by omega, rfl, by rw [show ocsZ t m 0 = [] by unfold ocsZ; rfl]; exact OwnI.lit0 _ _, (Below.refl _ _).alloc (Nat.le_refl _) _⟩
  case round =>
    obtain ⟨k, hk, rfl, hown, hb⟩ := hrel
    by_cases hlt : k < t.length
    · have hlen := ocsZ_len t m k
      go_wp2_with fail
      refine (impl_Occ _ _ _ _ _ _ _ _ (hra.below hb rfl) (hrb.below hb rfl) (by omega) (by omega)).mono ?_
      rintro e w1 ⟨rfl, hb1⟩
      have hb2 := hb.trans (hb1.mono hb.size)
      have hBs := hb2.size
      cases hO : occB t m (k : Int)
      · have HY := Lib.hid (ocs_no hO)
        clear hO
        go_wp2
        go_roundw
        case rel => exact ⟨k + 1, by omega, by go_num, by rw [HY.out]; exact hown.below hb1 rfl, hb2⟩
        case measure => simp [intOf]; omega
      · have HY := Lib.hid (ocs_yes hO)
        clear hO
        go_wp2_with (at_builtin; refine app_int rfl _ _ 31 rfl 3 Try.underlying31 (by kernel_rfl) w.heap.size _ (ocsZ t m k) (k : Int) (hown.below hb1 rfl) rfl rfl (by omega) hBs ?_; intro v' w2 hown1 hb3)
        go_roundw
        case rel => exact ⟨k + 1, by omega, by go_num, by rw [HY.out]; exact hown1, hb2.trans hb3⟩
        case measure => simp [intOf]; omega
    · obtain rfl : k = t.length := by omega
      go_wp2
      go_ret
      exact RetI.mk hown hb
attribute [local irreducible] ocsZ occB in
set_option maxHeartbeats 800000 in
theorem spec_Occs (A B : Option Addr) (c d : Nat) (t m : List (Int × Int)) (w : World) (hra : RdN w A t) (hrb : RdN w B m) (hla : t.length ≤ 100000000) (hlb : m.length ≤ 1000000000) :
    Calls Try.prog 45 #[.slice A t.length c, .slice B m.length d] w (RetI 3 w.heap.size (ocsZ t m t.length) w) := by
  go_enter Try.func45, Try.ntmps45
  go_wp2
  go_loopw [5, 6] (fun v i wr => ∃ k : Nat, k ≤ t.length ∧ i = .int .i64 k ∧ OwnI 3 w.heap.size wr v (ocsZ t m k) ∧ Below w.heap.size w wr) (fun _ i _ => t.length - (intOf i).toNat)
  case atStart => exact ⟨0, by omega, rfl, by rw [show ocsZ t m 0 = [] by unfold ocsZ; rfl]; exact OwnI.lit0 _ _, (Below.refl _ _).alloc (Nat.le_refl _) _⟩
  case round =>
    obtain ⟨k, hk, rfl, hown, hb⟩ := hrel
    by_cases hlt : k < t.length
    · have hlen := ocsZ_len t m k
      go_wp2_with fail
      refine (spec_Occ _ _ _ _ _ _ _ _ (hra.below hb rfl) (hrb.below hb rfl) (by omega) (by omega)).mono ?_
      rintro e w1 ⟨rfl, hb1⟩
      have hb2 := hb.trans (hb1.mono hb.size)
      have hBs := hb2.size
      cases hO : occB t m (k : Int)
      · have HY := Lib.hid (ocs_no hO)
        clear hO
        go_wp2
        go_roundw
        case rel => exact ⟨k + 1, by omega, by go_num, by rw [HY.out]; exact hown.below hb1 rfl, hb2⟩
        case measure => simp [intOf]; omega
      · have HY := Lib.hid (ocs_yes hO)
        clear hO
        go_wp2_with (at_builtin; refine app_int rfl _ _ 31 rfl 3 Try.underlying31 (by kernel_rfl) w.heap.size _ (ocsZ t m k) (k : Int) (hown.below hb1 rfl) rfl rfl (by omega) hBs ?_; intro v' w2 hown1 hb3)
        go_roundw
        case rel => exact ⟨k + 1, by omega, by go_num, by rw [HY.out]; exact hown1, hb2.trans hb3⟩
        case measure => simp [intOf]; omega
    · obtain rfl : k = t.length := by omega
      go_wp2
      go_ret
      exact RetI.mk hown hb
end Go.Proofs.Ytjfaodbjmanfnaa
