/- The program's and the reference's TurnContour return the same for every string. -/
import Derived.Test.YtkbceojeahninaaContour
import Derived.Test.YtkbceojeahninaaBytes
namespace Go.Proofs.Ytkbceojeahninaa
open Go.ChangeShapes Go.WideShapes Go.ChangeAt Go.RowKit
set_option linter.unusedVariables false
theorem ret_str {a b : ByteArray} (h : a = b) : Ending.returned (.string a) = .returned (.string b) := by rw [h]
def fl (c : UInt8) : UInt8 := if c.toNat = 85 then 68 else if c.toNat = 68 then 85 else 83
def turnFrom (s : ByteArray) (k : Nat) : List UInt8 := (s.data.toList.drop k).reverse.map fl
theorem turnFrom_step (s : ByteArray) (k : Nat) (h : k < s.size) : turnFrom s k = turnFrom s (k + 1) ++ [fl s[k]] := by
  unfold turnFrom
  rw [List.drop_eq_getElem_cons (by simpa using h), List.reverse_cons, List.map_append]
  rfl
theorem turnFrom_all (s : ByteArray) : turnFrom s s.size = [] := by
  unfold turnFrom
  rw [List.drop_of_length_le (by simp)]
  rfl
theorem turnFrom_length (s : ByteArray) (k : Nat) : (turnFrom s k).length = s.size - k := by simp [turnFrom]
def okC (s : ByteArray) : Bool := decide (s.size ≤ 39) && cok s
def turnZ (s : ByteArray) : ByteArray := if okC s then mkS (turnFrom s 0) else mkS []
theorem fl_a {c : UInt8} (h : ((c.toNat : Int) == 85) = true) : fl c = 68 := by
  simp at h; unfold fl; rw [if_pos (by omega)]
theorem fl_b {c : UInt8} (h : ((c.toNat : Int) == 85) = false) (g : ((c.toNat : Int) == 68) = true) : fl c = 85 := by
  simp at h g; unfold fl; rw [if_neg (by omega), if_pos (by omega)]
theorem fl_c {c : UInt8} (h : ((c.toNat : Int) == 85) = false) (g : ((c.toNat : Int) == 68) = false) : fl c = 83 := by
  simp at h g; unfold fl; rw [if_neg (by omega), if_neg (by omega)]
set_option maxHeartbeats 800000 in
theorem impl_TurnC_no (s : ByteArray) (w : World) (hs : s.size ≤ maxLen) (hc : okC s = false) :
    Calls Try.prog 29 #[.string s] w fun e w' => e = .returned (.string (mkS [])) ∧ Below w.heap.size w w' := by
  have HC := Lib.hid hc
  unfold okC at HC
  clear hc
  go_enter Try.func29, Try.ntmps29
  go_wp2_with (go_at_call 32; refine (impl_ContourOk _ _ hs).mono ?_; rintro e w1 ⟨rfl, rfl⟩; rw [HC.out])
  go_ret
  exact ⟨rfl, Below.refl _ _⟩
set_option maxHeartbeats 800000 in
theorem impl_TurnC_ok (s : ByteArray) (w : World) (hs : s.size ≤ maxLen) (hc : okC s = true) :
    Calls Try.prog 29 #[.string s] w fun e w' => e = .returned (.string (mkS (turnFrom s 0))) ∧ Below w.heap.size w w' := by
  have HC := Lib.hid hc
  unfold okC at hc HC
  simp only [Bool.and_eq_true, decide_eq_true_eq] at hc
  obtain ⟨h39, _⟩ := hc
  go_enter Try.func29, Try.ntmps29
  go_wp2_with (go_at_call 32; refine (impl_ContourOk _ _ hs).mono ?_; rintro e w1 ⟨rfl, rfl⟩; rw [HC.out])
  go_loopw [3, 4] (fun o i wr => ∃ (k : Nat), k ≤ s.size ∧ i = .int .i64 ((k : Int) - 1) ∧ OwnB 5 w.heap.size wr o (turnFrom s k) ∧ Below w.heap.size w wr) (fun _ i _ => (intOf i + 1).toNat)
  case atStart => exact ⟨s.size, by omega, rfl, by rw [turnFrom_all]; exact OwnB.lit0 w 5, (Below.refl _ _).alloc (Nat.le_refl _) _⟩
  case round =>
    obtain ⟨k, hk, rfl, hown, hb⟩ := hrel
    have hBs := hb.size
    have hlen := turnFrom_length s k
    by_cases hp : k = 0
    · subst hp
      rw [show ((0 : Nat) : Int) - 1 = -1 from rfl]
      go_wp2_with (refine conv_bytes rfl _ 22 9 rfl 5 w.heap.size _ (turnFrom s 0) Try.underlying22 Try.underlying5 Try.underlying9 hown rfl ?_)
      go_ret
      exact ⟨rfl, hb⟩
    · obtain ⟨j, rfl⟩ : ∃ j, k = j + 1 := ⟨k - 1, by omega⟩
      have HS := Lib.hid (turnFrom_step s j (by omega))
      have e1 : ((j + 1 : Nat) : Int) - 1 = (j : Int) := by omega
      rw [e1]
      have hl2 : (turnFrom s (j + 1)).length ≤ 1000000000 := by omega
      clear e1 hlen
      go_wp2_with (first | (at_builtin; refine app_byte rfl _ _ 22 rfl 5 Try.underlying22 (by kernel_rfl) w.heap.size _ (turnFrom s (j + 1)) 68 68 rfl hown rfl rfl hl2 hBs ?_; intro v' w1 hown1 hb1) | (at_builtin; refine app_byte rfl _ _ 22 rfl 5 Try.underlying22 (by kernel_rfl) w.heap.size _ (turnFrom s (j + 1)) 85 85 rfl hown rfl rfl hl2 hBs ?_; intro v' w1 hown1 hb1) | (at_builtin; refine app_byte rfl _ _ 22 rfl 5 Try.underlying22 (by kernel_rfl) w.heap.size _ (turnFrom s (j + 1)) 83 83 rfl hown rfl rfl hl2 hBs ?_; intro v' w1 hown1 hb1))
      · go_roundw
        case rel => exact ⟨j, by omega, rfl, by rw [HS.out, fl_a (by assumption)]; exact hown1, hb.trans hb1⟩
        case measure => simp [intOf]
      · go_roundw
        case rel => exact ⟨j, by omega, rfl, by rw [HS.out, fl_b (by assumption) (by assumption)]; exact hown1, hb.trans hb1⟩
        case measure => simp [intOf]
      · go_roundw
        case rel => exact ⟨j, by omega, rfl, by rw [HS.out, fl_c (by assumption) (by assumption)]; exact hown1, hb.trans hb1⟩
        case measure => simp [intOf]
theorem impl_TurnC (s : ByteArray) (w : World) (hs : s.size ≤ maxLen) :
    Calls Try.prog 29 #[.string s] w fun e w' => e = .returned (.string (turnZ s)) ∧ Below w.heap.size w w' := by
  unfold turnZ
  rcases hc : okC s with _ | _
  · exact impl_TurnC_no s w hs hc
  · exact impl_TurnC_ok s w hs hc
end Go.Proofs.Ytkbceojeahninaa
