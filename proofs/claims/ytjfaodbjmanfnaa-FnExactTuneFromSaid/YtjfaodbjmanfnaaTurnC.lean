/- The program's and the reference's TurnContour return the same for every string. -/
import Derived.Test.YtjfaodbjmanfnaaContour
import Derived.Test.YtjfaodbjmanfnaaBytes
namespace Go.Proofs.Ytjfaodbjmanfnaa
open Go.ChangeShapes Go.WideShapes Go.ChangeAt Go.RowKit
set_option linter.unusedVariables false
theorem ret_str {a b : ByteArray} (h : a = b) : Ending.returned (.string a) = .returned (.string b) := by rw [h]
def fl (c : UInt8) : UInt8 := if c.toNat = 85 then 68 else if c.toNat = 68 then 85 else 83
def turnFrom (s : ByteArray) (k : Nat) : List UInt8 := (s.data.toList.drop k).reverse.map fl
theorem turnFrom_step (s : ByteArray) (k : Nat) (h : k < s.size) : turnFrom s k = turnFrom s (k + 1) ++ [fl s[k]] := by
  unfold turnFrom
  rw [List.drop_eq_getElem_cons (by simpa using h), List.reverse_cons, List.map_append]
  rfl
theorem turnFrom_all (s : ByteArray) : turnFrom s s.size = [] := by
  unfold turnFrom
  rw [List.drop_of_length_le (by simp)]
  rfl
theorem turnFrom_length (s : ByteArray) (k : Nat) : (turnFrom s k).length = s.size - k := by simp [turnFrom]
def okC (s : ByteArray) : Bool := decide (s.size ≤ 39) && cok s
def turnZ (s : ByteArray) : ByteArray := if okC s then mkS (turnFrom s 0) else mkS []
theorem fl_a {c : UInt8} (h : ((c.toNat : Int) == 85) = true) : fl c = 68 := by
  simp at h; unfold fl; rw [if_pos (by omega)]
theorem fl_b {c : UInt8} (h : ((c.toNat : Int) == 85) = false) (g : ((c.toNat : Int) == 68) = true) : fl c = 85 := by
  simp at h g; unfold fl; rw [if_neg (by omega), if_pos (by omega)]
theorem fl_c {c : UInt8} (h : ((c.toNat : Int) == 85) = false) (g : ((c.toNat : Int) == 68) = false) : fl c = 83 := by
  simp at h g; unfold fl; rw [if_neg (by omega), if_neg (by omega)]
end Go.Proofs.Ytjfaodbjmanfnaa
