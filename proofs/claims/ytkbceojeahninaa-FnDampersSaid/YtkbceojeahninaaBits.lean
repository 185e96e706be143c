/- and, or, shifts of int64 on numbers that are not negative, as those of natural numbers. No program here. -/
import Derived.WalkKit
import Derived.Laws.BitsAllLaws
import Derived.Laws.BitsLemmas
import Derived.ProofKit
namespace Go.Proofs.Ytkbceojeahninaa
open Go.RowKit
theorem ofInt_small (a : Nat) (ha : a < 2 ^ 62) : (BitVec.ofInt 64 (a : Int)).toNat = a := by
  rw [BitVec.ofInt_natCast, BitVec.toNat_ofNat]
  exact Nat.mod_eq_of_lt (by omega)
theorem and_nat (a b : Nat) (ha : a < 2 ^ 62) (hb : b < 2 ^ 62) : bits .and .i64 (a : Int) (b : Int) = ((a &&& b : Nat) : Int) := by
  have hx : a &&& b < 2 ^ 62 := Nat.and_lt_two_pow _ hb
  show IntKind.i64.wrap ((BitVec.ofInt 64 (a : Int) &&& BitVec.ofInt 64 (b : Int)).toNat : Int) = _
  rw [BitVec.toNat_and, ofInt_small a ha, ofInt_small b hb, IntKind.wrap_i64]
  omega
theorem or_nat (a b : Nat) (ha : a < 2 ^ 62) (hb : b < 2 ^ 62) : bits .or .i64 (a : Int) (b : Int) = ((a ||| b : Nat) : Int) := by
  have hx : a ||| b < 2 ^ 62 := Nat.or_lt_two_pow ha hb
  show IntKind.i64.wrap ((BitVec.ofInt 64 (a : Int) ||| BitVec.ofInt 64 (b : Int)).toNat : Int) = _
  rw [BitVec.toNat_or, ofInt_small a ha, ofInt_small b hb, IntKind.wrap_i64]
  omega
theorem wrap_nat (a : Nat) (ha : a < 2 ^ 62) : wrap64 (a : Int) = (a : Int) := by
  unfold wrap64
  omega
theorem wrap_pow (m : Nat) (hm : m < 60) : wrap64 ((2 : Int) ^ m) = ((1 <<< m : Nat) : Int) := by
  have h1 : (1 <<< m : Nat) < 2 ^ 60 := by rw [Nat.one_shiftLeft]; exact Nat.pow_lt_pow_right (by omega) hm
  have h2 : ((2 : Int) ^ m) = ((1 <<< m : Nat) : Int) := by rw [Nat.one_shiftLeft]; simp
  rw [h2]
  exact wrap_nat _ (Nat.lt_trans h1 (by omega))
theorem or_step (R m : Nat) (hR : R < 4096) (hm : m < 12) : bits .or .i64 (R : Int) (wrap64 ((2 : Int) ^ m)) = ((R ||| 1 <<< m : Nat) : Int) := by
  have h1 : (1 <<< m : Nat) < 2 ^ 12 := by rw [Nat.one_shiftLeft]; exact Nat.pow_lt_pow_right (by omega) hm
  rw [wrap_pow m (by omega), or_nat _ _ (by omega) (by omega)]
end Go.Proofs.Ytkbceojeahninaa
