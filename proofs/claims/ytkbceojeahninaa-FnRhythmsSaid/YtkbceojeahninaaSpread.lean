/- The program's and the reference's SpreadBeats return the same for all numbers. -/
import Derived.Test.YtkbceojeahninaaInts
import Derived.Test.YtkbceojeahninaaIn
namespace Go.Proofs.Ytkbceojeahninaa
open Go.ChangeShapes Go.WideShapes Go.ChangeAt Go.RowKit
set_option linter.unusedVariables false
def spreadTo (b s k : Nat) : List Int := (List.range k).map fun (j : Nat) => ((j : Int) * (s : Int)) / (b : Int)
theorem spreadTo_succ (b s k : Nat) : spreadTo b s (k + 1) = spreadTo b s k ++ [((k : Int) * (s : Int)) / (b : Int)] := by
  unfold spreadTo
  rw [List.range_succ, List.map_append]
  rfl
theorem spreadTo_length (b s k : Nat) : (spreadTo b s k).length = k := by simp [spreadTo]
def spreadOk (b s : Int) : Prop := 1 ≤ s ∧ s ≤ 96 ∧ 0 ≤ b ∧ b ≤ s
instance (b s : Int) : Decidable (spreadOk b s) := by unfold spreadOk; infer_instance
def spreadZ (b s : Int) : List Int := if spreadOk b s then spreadTo b.toNat s.toNat b.toNat else []
theorem spreadZ_length (b s : Int) : (spreadZ b s).length ≤ 96 := by
  unfold spreadZ
  by_cases h : spreadOk b s
  · rw [if_pos h, spreadTo_length]; unfold spreadOk at h; omega
  · rw [if_neg h]; simp
theorem mul_bd (k s : Nat) (hk : k ≤ 96) (hs : s ≤ 96) : 0 ≤ (k : Int) * (s : Int) ∧ (k : Int) * (s : Int) ≤ 9216 := by
  have h : k * s ≤ 96 * 96 := Nat.mul_le_mul hk hs
  have e : (k : Int) * (s : Int) = ((k * s : Nat) : Int) := by simp
  rw [e]
  omega
set_option maxHeartbeats 400000 in
theorem impl_Spread_ok (b s : Nat) (w : World) (h1 : 1 ≤ s) (h2 : s ≤ 96) (h3 : b ≤ s) :
    Calls Try.prog 14 #[.int .i64 b, .int .i64 s] w (RetI 3 w.heap.size (spreadTo b s b) w) := by
  have g1 : (1 : Int) ≤ s := by omega
  have g2 : (s : Int) ≤ 96 := by omega
  have g3 : (b : Int) ≤ s := by omega
  go_enter Try.func14, Try.ntmps14
  go_wp2_with (first | (go_at_call 53; refine (wi_yes _ _ _ _ ?_).mono ?_; omega; rintro e w1 ⟨rfl, rfl⟩) | (go_at_call 53; refine (wi_no _ _ _ _ ?_).mono ?_; omega; rintro e w1 ⟨rfl, rfl⟩))
  go_loopw [5, 6] (fun v i wr => ∃ k : Nat, k ≤ b ∧ i = .int .i64 k ∧ OwnI 3 w.heap.size wr v (spreadTo b s k) ∧ Below w.heap.size w wr) (fun _ i _ => b - (intOf i).toNat)
  case atStart => exact ⟨0, by omega, rfl, OwnI.lit0 w 3, (Below.refl _ _).alloc (Nat.le_refl _) _⟩
  case round =>
    obtain ⟨k, hk, rfl, hown, hb⟩ := hrel
    have hBs := hb.size
    have hml := spreadTo_length b s k
    by_cases hlt : k < b
    · have HS := Lib.hid (spreadTo_succ b s k)
      obtain ⟨m1, m2⟩ := mul_bd k s (by omega) h2
      have hb1 : (1 : Int) ≤ b := by omega
      go_wp2_with (at_builtin; refine app_int rfl _ _ 24 rfl 3 Try.underlying24 (by kernel_rfl) w.heap.size _ (spreadTo b s k) ((k : Int) * (s : Int) / (b : Int)) hown rfl rfl (by omega) hBs ?_; intro v' w1 hown1 hb2)
      go_roundw
      case rel => exact ⟨k + 1, by omega, by go_num, by rw [HS.out]; exact hown1, hb.trans hb2⟩
      case measure => simp [intOf]; omega
    · go_wp2
      go_ret
      obtain rfl : k = b := by omega
      exact RetI.mk hown hb

theorem impl_Spread_no (b s : Int) (w : World) (hno : ¬ spreadOk b s) :
    Calls Try.prog 14 #[.int .i64 b, .int .i64 s] w (RetI 3 w.heap.size [] w) := by
  unfold spreadOk at hno
  by_cases h1 : 1 ≤ s ∧ s ≤ 96
  · go_enter Try.func14, Try.ntmps14
    go_wp2_with (first | (go_at_call 53; refine (wi_yes _ _ _ _ ?_).mono ?_; omega; rintro e w1 ⟨rfl, rfl⟩) | (go_at_call 53; refine (wi_no _ _ _ _ ?_).mono ?_; omega; rintro e w1 ⟨rfl, rfl⟩))
    go_ret
    exact RetI.mk (OwnI.nil0 w _ _) (Below.refl _ _)
  · go_enter Try.func14, Try.ntmps14
    go_wp2_with (first | (go_at_call 53; refine (wi_yes _ _ _ _ ?_).mono ?_; omega; rintro e w1 ⟨rfl, rfl⟩) | (go_at_call 53; refine (wi_no _ _ _ _ ?_).mono ?_; omega; rintro e w1 ⟨rfl, rfl⟩))
    go_ret
    exact RetI.mk (OwnI.nil0 w _ _) (Below.refl _ _)
theorem impl_Spread (b s : Int) (w : World) : Calls Try.prog 14 #[.int .i64 b, .int .i64 s] w (RetI 3 w.heap.size (spreadZ b s) w) := by
  unfold spreadZ
  by_cases h : spreadOk b s
  · rw [if_pos h]
    unfold spreadOk at h
    obtain ⟨n, rfl⟩ := Int.eq_ofNat_of_zero_le h.2.2.1
    obtain ⟨m, rfl⟩ := Int.eq_ofNat_of_zero_le (show 0 ≤ s by omega)
    exact impl_Spread_ok n m w (by omega) (by omega) (by omega)
  · rw [if_neg h]
    exact impl_Spread_no b s w h
set_option maxHeartbeats 400000 in
theorem spec_Spread_ok (b s : Nat) (w : World) (h1 : 1 ≤ s) (h2 : s ≤ 96) (h3 : b ≤ s) :
    Calls Try.prog 90 #[.int .i64 b, .int .i64 s] w (RetI 3 w.heap.size (spreadTo b s b) w) := by
  have g1 : (1 : Int) ≤ s := by omega
  have g2 : (s : Int) ≤ 96 := by omega
  have g3 : (b : Int) ≤ s := by omega
  go_enter Try.func90, Try.ntmps90
  go_wp2_with (first | (go_at_call 93; refine (in_yes _ _ _ _ ?_).mono ?_; omega; rintro e w1 ⟨rfl, rfl⟩) | (go_at_call 93; refine (in_no _ _ _ _ ?_).mono ?_; omega; rintro e w1 ⟨rfl, rfl⟩))
  go_loopw [5, 6] (fun v i wr => ∃ k : Nat, k ≤ b ∧ i = .int .i64 k ∧ OwnI 3 w.heap.size wr v (spreadTo b s k) ∧ Below w.heap.size w wr) (fun _ i _ => b - (intOf i).toNat)
  case atStart => exact ⟨0, by omega, rfl, OwnI.lit0 w 3, (Below.refl _ _).alloc (Nat.le_refl _) _⟩
  case round =>
    obtain ⟨k, hk, rfl, hown, hb⟩ := hrel
    have hBs := hb.size
    have hml := spreadTo_length b s k
    by_cases hlt : k < b
    · have HS := Lib.hid (spreadTo_succ b s k)
      obtain ⟨m1, m2⟩ := mul_bd k s (by omega) h2
      have hb1 : (1 : Int) ≤ b := by omega
      go_wp2_with (at_builtin; refine app_int rfl _ _ 24 rfl 3 Try.underlying24 (by kernel_rfl) w.heap.size _ (spreadTo b s k) ((k : Int) * (s : Int) / (b : Int)) hown rfl rfl (by omega) hBs ?_; intro v' w1 hown1 hb2)
      go_roundw
      case rel => exact ⟨k + 1, by omega, by go_num, by rw [HS.out]; exact hown1, hb.trans hb2⟩
      case measure => simp [intOf]; omega
    · go_wp2
      go_ret
      obtain rfl : k = b := by omega
      exact RetI.mk hown hb

theorem spec_Spread_no (b s : Int) (w : World) (hno : ¬ spreadOk b s) :
    Calls Try.prog 90 #[.int .i64 b, .int .i64 s] w (RetI 3 w.heap.size [] w) := by
  unfold spreadOk at hno
  by_cases h1 : 1 ≤ s ∧ s ≤ 96
  · go_enter Try.func90, Try.ntmps90
    go_wp2_with (first | (go_at_call 93; refine (in_yes _ _ _ _ ?_).mono ?_; omega; rintro e w1 ⟨rfl, rfl⟩) | (go_at_call 93; refine (in_no _ _ _ _ ?_).mono ?_; omega; rintro e w1 ⟨rfl, rfl⟩))
    go_ret
    exact RetI.mk (OwnI.lit0 w _) ((Below.refl _ _).alloc (Nat.le_refl _) _)
  · go_enter Try.func90, Try.ntmps90
    go_wp2_with (first | (go_at_call 93; refine (in_yes _ _ _ _ ?_).mono ?_; omega; rintro e w1 ⟨rfl, rfl⟩) | (go_at_call 93; refine (in_no _ _ _ _ ?_).mono ?_; omega; rintro e w1 ⟨rfl, rfl⟩))
    go_ret
    exact RetI.mk (OwnI.lit0 w _) ((Below.refl _ _).alloc (Nat.le_refl _) _)
theorem spec_Spread (b s : Int) (w : World) : Calls Try.prog 90 #[.int .i64 b, .int .i64 s] w (RetI 3 w.heap.size (spreadZ b s) w) := by
  unfold spreadZ
  by_cases h : spreadOk b s
  · rw [if_pos h]
    unfold spreadOk at h
    obtain ⟨n, rfl⟩ := Int.eq_ofNat_of_zero_le h.2.2.1
    obtain ⟨m, rfl⟩ := Int.eq_ofNat_of_zero_le (show 0 ≤ s by omega)
    exact spec_Spread_ok n m w (by omega) (by omega) (by omega)
  · rw [if_neg h]
    exact spec_Spread_no b s w h
end Go.Proofs.Ytkbceojeahninaa
