/- The program's and the reference's RotateScale and MajorScale return the same for every number. -/
import Derived.Test.YtkbceojeahninaaBase
import Derived.Test.YtkbceojeahninaaBits
import Derived.Test.YtkbceojeahninaaScalePure
import Derived.Test.YtkbceojeahninaaRows
namespace Go.Proofs.Ytkbceojeahninaa
open Go.ChangeShapes Go.WideShapes Go.ChangeAt Go.RowKit

theorem memN_succ (s k : Nat) : memN s (k + 1) = memN s k ++ (if (s >>> k) &&& 1 == 1 then [k] else []) := by
  unfold memN
  rw [List.range_succ, List.filter_append]
  congr 1
  rw [List.filter_cons]
  rfl
def nats (l : List Nat) : List Int := l.map Int.ofNat
theorem nats_app (l m : List Nat) : nats (l ++ m) = nats l ++ nats m := by simp [nats]
theorem gt_nats (l : List Nat) (i : Nat) (h : i < l.length) : gt (nats l) i = ((l[i] : Nat) : Int) := by
  simp [gt, nats, List.getD, h]
theorem memN_lt (s n : Nat) : ∀ x ∈ memN s n, x < n := by
  intro x hx
  unfold memN at hx
  simp at hx
  exact hx.1
theorem memN_length (s n : Nat) : (memN s n).length ≤ n := by
  unfold memN
  have := List.length_filter_le (fun j => (s >>> j) &&& 1 == 1) (List.range n)
  simpa using this
theorem bit_test (s k : Nat) (hs : s < 4096) : (bits BinOp.and IntKind.i64 ((s : Int) / 2 ^ k) 1 == 1) = ((s >>> k) &&& 1 == 1) := by
  have h : ((s : Int) / 2 ^ k) = ((s >>> k : Nat) : Int) := by rw [Nat.shiftRight_eq_div_pow]; simp
  rw [h, show (1 : Int) = ((1 : Nat) : Int) from rfl, and_nat _ _ (by have := Nat.shiftRight_le s k; omega) (by omega)]
  rw [Bool.eq_iff_iff, beq_iff_eq, beq_iff_eq]
  omega

def rotTo (s b k : Nat) : Nat := ((memN s 12).take k).foldl (rotStep b) 0
theorem rotTo_succ (s b k : Nat) (h : k < (memN s 12).length) : rotTo s b (k + 1) = rotTo s b k ||| 1 <<< (((memN s 12)[k] + b) % 12) := by
  unfold rotTo
  rw [List.take_succ_eq_append_getElem h, List.foldl_append]
  rfl
theorem rotTo_lt (s b k : Nat) : rotTo s b k < 4096 := by
  unfold rotTo
  have : ∀ (l : List Nat) (a : Nat), a < 4096 → l.foldl (rotStep b) a < 4096 := by
    intro l
    induction l with
    | nil => intro a h; exact h
    | cons x l ih =>
      intro a h
      refine ih _ ?_
      have h1 : 1 <<< ((x + b) % 12) < 2 ^ 12 := by
        rw [Nat.one_shiftLeft]
        exact Nat.pow_lt_pow_right (by omega) (Nat.mod_lt _ (by omega))
      exact Nat.or_lt_two_pow (n := 12) h h1
  exact this _ 0 (by omega)
theorem rotTo_all (s b : Nat) : rotTo s b (nats (memN s 12)).length = rotI s b := by
  unfold rotTo rotI
  rw [List.take_of_length_le (by simp [nats])]

theorem shl_small (s b : Nat) (hs : s < 4096) (hb : b < 12) : s <<< b < 8388608 := by
  rw [Nat.shiftLeft_eq]
  have : 2 ^ b ≤ 2 ^ 11 := Nat.pow_le_pow_right (by omega) (by omega)
  have := Nat.mul_le_mul (show s ≤ 4095 by omega) this
  omega
theorem shl_wrap (s b : Nat) (hs : s < 4096) (hb : b < 12) : wrap64 ((s : Int) * 2 ^ b) = ((s <<< b : Nat) : Int) := by
  have h1 := shl_small s b hs hb
  have h2 : ((s : Int) * 2 ^ b) = ((s <<< b : Nat) : Int) := by rw [Nat.shiftLeft_eq]; simp
  rw [h2]
  exact wrap_nat _ (by omega)
theorem spec_rot_val (s b : Nat) (hs : s < 4096) (hb : b < 12) :
    bits .or .i64 (bits .and .i64 (wrap64 ((s : Int) * 2 ^ b)) 4095) (wrap64 ((s : Int) * 2 ^ b) / 4096) = ((rotN s b : Nat) : Int) := by
  have h1 := shl_small s b hs hb
  have h2 : ((s <<< b : Nat) : Int) / (4096 : Int) = ((s <<< b >>> 12 : Nat) : Int) := by rw [Nat.shiftRight_eq_div_pow]; exact (Int.natCast_ediv _ _).symm
  have h3 : s <<< b >>> 12 ≤ s <<< b := Nat.shiftRight_le _ _
  rw [shl_wrap s b hs hb, h2, show (4095 : Int) = ((4095 : Nat) : Int) from rfl, and_nat _ _ (by omega) (by omega), or_nat _ _ (by have := Nat.and_le_left (n := s <<< b) (m := 4095); omega) (by omega)]
  rfl

def rotZ (s b : Int) : Int := if 0 ≤ s ∧ s ≤ 4095 ∧ 0 ≤ b ∧ b ≤ 11 then (rotN s.toNat b.toNat : Nat) else -1
end Go.Proofs.Ytkbceojeahninaa
