/- The program's and the reference's ContourOk return the same for every string. -/
import Derived.Test.YtkbceojeahninaaBase
import Derived.Test.YtkbceojeahninaaRows
namespace Go.Proofs.Ytkbceojeahninaa
open Go.ChangeShapes Go.WideShapes Go.ChangeAt Go.RowKit
def isL (c : UInt8) : Bool := c.toNat == 85 || (c.toNat == 68 || c.toNat == 83)
def okTo (s : ByteArray) (k : Nat) : Prop := ∀ i (h : i < s.size), i < k → isL s[i] = true
def cok (s : ByteArray) : Bool := s.data.toList.all isL
theorem okTo_succ {s : ByteArray} {k : Nat} (h : okTo s k) (hk : k < s.size) (h1 : isL s[k] = true) : okTo s (k + 1) := by
  intro i hi hik
  by_cases e : i = k
  · subst e; exact h1
  · exact h i hi (by omega)
theorem cok_all {s : ByteArray} (h : okTo s s.size) : cok s = true := by
  unfold cok
  rw [List.all_eq_true]
  intro x hx
  obtain ⟨i, hi, rfl⟩ := List.getElem_of_mem hx
  exact h i (by simpa using hi) (by simpa using hi)
theorem cok_no {s : ByteArray} {k : Nat} (hk : k < s.size) (h1 : isL s[k] = false) : cok s = false := by
  unfold cok
  rw [List.all_eq_false]
  exact ⟨s[k], by rw [show s[k] = s.data.toList[k]'(by simpa using hk) from rfl]; exact List.getElem_mem _, by simp [h1]⟩
theorem isL_a {c : UInt8} (h : (c.toNat : Int) = 85) : isL c = true := by unfold isL; simp; omega
theorem isL_b {c : UInt8} (h : (c.toNat : Int) = 68) : isL c = true := by unfold isL; simp; omega
theorem isL_c {c : UInt8} (h : (((c.toNat : Int) != 85) = false ∨ ((c.toNat : Int) != 68) = false) ∨ ((c.toNat : Int) != 83) = false) : isL c = true := by
  unfold isL; simp at h ⊢; omega
theorem isL_n {c : UInt8} (h : (((c.toNat : Int) != 85) = true ∧ ((c.toNat : Int) != 68) = true) ∧ ((c.toNat : Int) != 83) = true) : isL c = false := by
  unfold isL; simp at h ⊢; omega
set_option maxHeartbeats 400000 in
theorem impl_ContourOk (s : ByteArray) (w : World) (hs : s.size ≤ maxLen) :
    Calls Try.prog 32 #[.string s] w fun e w' => e = .returned (.bool (decide (s.size ≤ 39) && cok s)) ∧ w = w' := by
  unfold maxLen at hs
  by_cases h39 : 39 < s.size
  · go_enter Try.func32, Try.ntmps32
    go_wp2
    go_ret
    exact ⟨ret_bool (by rw [decide_eq_false (by omega)]; rfl), rfl⟩
  · go_enter Try.func32, Try.ntmps32
    go_wp2
    go_loop [3] (fun i => ∃ k : Nat, k ≤ s.size ∧ i = .int .i64 k ∧ okTo s k) (fun i => s.size - (intOf i).toNat)
    case atStart => exact ⟨0, by omega, rfl, fun _ _ h => by omega⟩
    case round =>
      obtain ⟨k, hk, rfl, hok⟩ := hrel
      go_wp2
      · go_round
        case rel => exact ⟨k + 1, by omega, by go_num, okTo_succ hok (by assumption) (isL_a (by assumption))⟩
        case measure => simp [intOf]; omega
      · go_round
        case rel => exact ⟨k + 1, by omega, by go_num, okTo_succ hok (by assumption) (isL_b (by assumption))⟩
        case measure => simp [intOf]; omega
      · go_ret
        exact ⟨ret_bool (by rw [cok_no (by assumption) (isL_n (by assumption))]; simp), rfl⟩
      · go_round
        case rel => exact ⟨k + 1, by omega, by go_num, okTo_succ hok (by assumption) (isL_c (by assumption))⟩
        case measure => simp [intOf]; omega
      · go_ret
        obtain rfl : k = s.size := by omega
        exact ⟨ret_bool (by rw [cok_all hok, decide_eq_true (by omega)]; rfl), rfl⟩
end Go.Proofs.Ytkbceojeahninaa
