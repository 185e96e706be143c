/- The program's and the reference's CountUps return the same for every string. -/
import Derived.Test.YtkbceojeahninaaBase
import Derived.Test.YtkbceojeahninaaRows
import Derived.Test.YtkbceojeahninaaContour
import Derived.Test.YtkbceojeahninaaShelfC
namespace Go.Proofs.Ytkbceojeahninaa
open Go.ChangeShapes Go.WideShapes Go.ChangeAt Go.RowKit
def upK (l : List UInt8) (k : Nat) : Int := ((l.take k).count 85 : Int) - ((l.take k).count 68 : Int)
theorem upK_zero (l : List UInt8) : upK l 0 = 0 := by simp [upK]
theorem upK_bd (l : List UInt8) (k : Nat) : -(k : Int) ≤ upK l k ∧ upK l k ≤ k := by
  have h1 := List.count_le_length (a := (85 : UInt8)) (l := l.take k)
  have h2 := List.count_le_length (a := (68 : UInt8)) (l := l.take k)
  have h3 : (l.take k).length ≤ k := by simp; omega
  unfold upK
  omega
theorem upK_succ (s : ByteArray) (k : Nat) (h : k < s.size) :
    upK s.data.toList (k + 1) = upK s.data.toList k + (if s[k].toNat = 85 then 1 else if s[k].toNat = 68 then -1 else 0) := by
  have hl : k < s.data.toList.length := by simpa using h
  have he : s.data.toList[k] = s[k] := rfl
  unfold upK
  rw [← List.take_append_getElem hl, List.count_append, List.count_append, he]
  generalize s[k] = c
  by_cases h1 : c.toNat = 85
  · have : c = 85 := UInt8.toNat_inj.1 h1
    subst this
    simp; omega
  · by_cases h2 : c.toNat = 68
    · have : c = 68 := UInt8.toNat_inj.1 h2
      subst this
      simp; omega
    · have n1 : c ≠ 85 := fun e => h1 (by rw [e]; rfl)
      have n2 : c ≠ 68 := fun e => h2 (by rw [e]; rfl)
      rw [if_neg h1, if_neg h2]
      simp [n1, n2]
theorem upK_U {s : ByteArray} {k : Nat} (h : k < s.size) (hc : (s[k].toNat : Int) = 85) : upK s.data.toList (k + 1) = upK s.data.toList k + 1 := by
  rw [upK_succ s k h, if_pos (by omega)]
theorem upK_D {s : ByteArray} {k : Nat} (h : k < s.size) (h0 : (s[k].toNat : Int) = 68) : upK s.data.toList (k + 1) = upK s.data.toList k - 1 := by
  rw [upK_succ s k h, if_neg (by omega), if_pos (by omega)]; omega
theorem upK_N {s : ByteArray} {k : Nat} (h : k < s.size) (h1 : ¬ (s[k].toNat : Int) = 85) (h2 : ¬ (s[k].toNat : Int) = 68) : upK s.data.toList (k + 1) = upK s.data.toList k := by
  rw [upK_succ s k h, if_neg (by omega), if_neg (by omega)]; omega
def ups (s : ByteArray) : Int := if (decide (s.size ≤ 39) && cok s) = true then upK s.data.toList s.size else 0
theorem ups_yes {s : ByteArray} (h : (decide (s.size ≤ 39) && cok s) = true) : upK s.data.toList s.size = ups s := by unfold ups; rw [if_pos h]
theorem ups_no {s : ByteArray} (h : (decide (s.size ≤ 39) && cok s) = false) : 0 = ups s := by unfold ups; rw [h]; rfl
theorem ups_cnt {s : ByteArray} (h : (decide (s.size ≤ 39) && cok s) = true) : (Lib.countByte s.data.toList 85 : Int) - (Lib.countByte s.data.toList 68 : Int) = ups s := by
  rw [← ups_yes h]
  unfold upK Lib.countByte
  rw [List.take_of_length_le (by simp)]
theorem impl_CountUps (s : ByteArray) (w : World) (hs : s.size ≤ maxLen) :
    Calls Try.prog 33 #[.string s] w fun e w' => e = .returned (.int .i64 (ups s)) ∧ w = w' := by
  have hs0 := hs
  unfold maxLen at hs
  cases hb : (decide (s.size ≤ 39) && cok s)
  · go_enter Try.func33, Try.ntmps33
    go_wp2_with fail
    have hC := impl_ContourOk s w hs0
    rw [hb] at hC
    refine hC.mono ?_
    rintro e w' ⟨rfl, rfl⟩
    go_wp2
    go_ret
    exact ⟨ret_int (ups_no hb), rfl⟩
  · have hu := ups_cnt hb
    have b1 : Lib.countByte s.data.toList 85 ≤ s.size := by unfold Lib.countByte; exact Nat.le_trans List.count_le_length (by simp)
    have b2 : Lib.countByte s.data.toList 68 ≤ s.size := by unfold Lib.countByte; exact Nat.le_trans List.count_le_length (by simp)
    go_enter Try.func33, Try.ntmps33
    go_wp2_with fail
    have hC := impl_ContourOk s w hs0
    rw [hb] at hC
    refine hC.mono ?_
    rintro e w' ⟨rfl, rfl⟩
    go_wp2_with fail
    refine (Any.strings_Count_one Try.lays138 s 85 _).mono ?_
    rintro e w' ⟨rfl, rfl⟩
    go_wp2_with fail
    refine (Any.strings_Count_one Try.lays138 s 68 _).mono ?_
    rintro e w' ⟨rfl, rfl⟩
    go_wp2
    go_ret
    exact ⟨rfl, rfl⟩
end Go.Proofs.Ytkbceojeahninaa
