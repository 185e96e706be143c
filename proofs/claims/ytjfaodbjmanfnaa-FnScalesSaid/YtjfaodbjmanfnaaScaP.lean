/- What FnScales rests on, with no program in sight. -/
import Derived.Test.YtjfaodbjmanfnaaScf
import Derived.Test.YtjfaodbjmanfnaaBest
import Derived.Test.YtjfaodbjmanfnaaWrong
import Derived.Test.YtjfaodbjmanfnaaSteps
import Derived.Test.YtjfaodbjmanfnaaScaleC
import Derived.Test.YtjfaodbjmanfnaaHigS
import Derived.Test.YtjfaodbjmanfnaaLawH
namespace Go.Proofs.Ytjfaodbjmanfnaa
open Go.RowKit
set_option linter.unusedVariables false
/-- The best scale has the fewest wrong notes, and is the first that has. -/
theorem bst_min (l : List (Int × Int)) : ∀ k r, r < k → wroB l (bstZ l k : Int) ≤ wroB l (r : Int) ∧ (r < bstZ l k → wroB l (bstZ l k : Int) < wroB l (r : Int))
  | 0, r, h => by omega
  | k + 1, r, h => by
    by_cases hw : wroB l (k : Int) < wroB l (bstZ l k : Int)
    · rw [bst_yes hw]
      by_cases e : r = k
      · subst e; exact ⟨Int.le_refl _, fun h => by omega⟩
      · have := bst_min l k r (by omega)
        exact ⟨by omega, fun _ => by omega⟩
    · rw [bst_no hw]
      by_cases e : r = k
      · subst e
        refine ⟨by omega, fun hlt => ?_⟩
        have h1 : bstZ l r ≤ r := by
          cases r with
          | zero => simp [bstZ]
          | succ r => have := bstZ_le l r; omega
        omega
      · exact bst_min l k r (by omega)
theorem scf_mem {s : Nat} {x : Int} : ∀ n, x ∈ scfZ s n ↔ ∃ k, k < n ∧ x = (k : Int) ∧ inSc s k = true
  | 0 => by simp [scfZ]
  | n + 1 => by
    unfold scfZ
    cases h : inSc s n
    · simp only [Bool.false_eq_true, if_false]
      rw [scf_mem n]
      constructor
      · rintro ⟨k, hk, r⟩; exact ⟨k, by omega, r⟩
      · rintro ⟨k, hk, r⟩
        refine ⟨k, ?_, r⟩
        by_cases e : k = n
        · subst e; rw [h] at r; exact absurd r.2 (by simp)
        · omega
    · simp only [if_true]
      rw [List.mem_append, scf_mem n, List.mem_singleton]
      constructor
      · rintro (⟨k, hk, r⟩ | rfl)
        · exact ⟨k, by omega, r⟩
        · exact ⟨n, by omega, rfl, h⟩
      · rintro ⟨k, hk, e, r⟩
        by_cases e' : k = n
        · subst e'; exact Or.inr e
        · exact Or.inl ⟨k, by omega, e, r⟩
theorem wr_zero (l : List (Int × Int)) (M : Nat) : ∀ n, wrZ l M n = 0 ↔ ∀ k, k < n → bitN M (pt l k) ≠ 0
  | 0 => by simp [wrZ]
  | n + 1 => by
    have hr := wrZ_rng l M n
    unfold wrZ
    by_cases h : bitN M (pt l n) = 0
    · rw [if_pos h]
      constructor
      · intro h1; omega
      · intro h1; exact absurd h (h1 n (by omega))
    · rw [if_neg h, wr_zero l M n]
      constructor
      · intro h1 k hk
        by_cases e : k = n
        · subst e; exact h
        · exact h1 k (by omega)
      · intro h1 k hk; exact h1 k (by omega)
theorem bit_test1 (M q : Nat) : (M >>> q) &&& 1 ≠ 0 ↔ M.testBit q = true := by
  unfold Nat.testBit
  rw [Nat.and_comm]
  simp
theorem or_sub {s m : Nat} : s ||| m = m ↔ ∀ j, s.testBit j = true → m.testBit j = true := by
  constructor
  · intro h j hj
    rw [← h, Nat.testBit_or, hj]; rfl
  · intro h
    refine Nat.eq_of_testBit_eq fun j => ?_
    rw [Nat.testBit_or]
    cases hs : s.testBit j
    · simp
    · rw [h j hs]; rfl
/-- A scale is among the tune's scales just if there are no wrong notes. -/
theorem has_wrong {l : List (Int × Int)} (hB : tuneB l = true) {k : Nat} (hk : k < 12) : hasI (scfB l) (k : Int) = (wroB l (k : Int) == 0) := by
  have hw : wroB l (k : Int) = wrZ l (majN (k : Int)) l.length := by unfold wroB; rw [if_pos ⟨hB, by omega, by omega⟩]
  rw [hw, scfB_yes hB, Bool.eq_iff_iff, beq_iff_eq, wr_zero]
  unfold hasI
  rw [decide_eq_true_eq, scf_mem]
  have e1 : (∃ k' : Nat, k' < 12 ∧ (k : Int) = (k' : Int) ∧ inSc (stU l l.length) k' = true) ↔ inSc (stU l l.length) k = true := by
    constructor
    · rintro ⟨k', _, e, h⟩
      have : k = k' := by omega
      rw [this]; exact h
    · intro h; exact ⟨k, hk, rfl, h⟩
  rw [e1]
  unfold inSc
  rw [beq_iff_eq, or_sub]
  have hp : ∀ i, i < l.length → (pt l i % 12).toNat = (pt l i).toNat % 12 := fun i hi => by have := (pt_rng hB hi).1; omega
  constructor
  · intro h i hi
    unfold bitN
    rw [bit_test1, hp i hi]
    exact h _ ((stU_bit l _ _).2 ⟨i, hi, rfl⟩)
  · intro h j hj
    obtain ⟨i, hi, e⟩ := (stU_bit l j _).1 hj
    have := h i hi
    unfold bitN at this
    rw [bit_test1, hp i hi, e] at this
    exact this
theorem rotN_or (a b c : Nat) : rotN (a ||| b) c = rotN a c ||| rotN b c := by
  unfold rotN
  rw [Nat.shiftLeft_or_distrib, Nat.and_or_distrib_right, Nat.shiftRight_or_distrib]
  refine Nat.eq_of_testBit_eq fun j => ?_
  simp only [Nat.testBit_or]
  cases (a <<< c &&& 4095).testBit j <;> cases (b <<< c &&& 4095).testBit j <;> cases (a <<< c >>> 12).testBit j <;> cases (b <<< c >>> 12).testBit j <;> rfl
theorem rot_one : ∀ m, m < 12 → rotN (1 <<< m) 2 = 1 <<< ((m + 2) % 12) := by decide
theorem hig_pt (l : List (Int × Int)) (b : Int) {k : Nat} (hk : k < l.length) : pt (higL l b) k = pt l k + b := by
  rw [higL_map]
  simp [pt, List.getD, hk]
theorem steps_up {l : List (Int × Int)} (hB : tuneB l = true) : ∀ n, n ≤ l.length → stU (higL l 2) n = rotN (stU l n) 2
  | 0, _ => by unfold stU; rfl
  | n + 1, h => by
    have hp := (pt_rng hB (show n < l.length by omega)).1
    have e : (pt l n + 2).toNat % 12 = ((pt l n).toNat % 12 + 2) % 12 := by omega
    unfold stU
    rw [steps_up hB n (by omega), rotN_or, hig_pt l 2 (by omega), e, rot_one _ (Nat.mod_lt _ (by omega))]
theorem steps_bit {l : List (Int × Int)} (hB : tuneB l = true) {k : Nat} (hk : k < l.length) : bits BinOp.and IntKind.i64 ((stU l l.length : Int) / 2 ^ min ((pt l k).toNat % 12) 64) 1 = 1 := by
  have hq := Nat.mod_lt (pt l k).toNat (show 0 < 12 by omega)
  rw [bit_val _ _ (stU_lt l _) (by omega)]
  have h1 := (bit_test1 (stU l l.length) ((pt l k).toNat % 12)).2 ((stU_bit l _ _).2 ⟨k, hk, rfl⟩)
  rcases and_one (stU l l.length >>> ((pt l k).toNat % 12)) with h | h
  · exact absurd h h1
  · rw [h]; rfl
theorem hig_two {l : List (Int × Int)} (h : drT l) : higB l 2 = true ∧ higR l 2 = higL l 2 ∧ tuneB (higL l 2) = true := by
  have ht : tuneB (higL l 2) = true := by
    rw [higL_map, asc_tune]
    · rw [List.length_map]; exact decide_eq_true (by have := h.2.1; omega)
    · unfold asc
      rw [List.pairwise_map]
      refine (tune_asc h.1).imp fun hxy => ?_
      rw [ltN_iff] at hxy ⊢
      simp; omega
    · intro x hx
      obtain ⟨y, hy, rfl⟩ := List.mem_map.1 hx
      obtain ⟨a1, a2, a3, a4⟩ := h.2.2 y hy
      exact ⟨⟨by simpa using a1, by simp; omega⟩, ⟨by simp; omega, by simp; omega⟩⟩
  obtain ⟨h1, h2⟩ := hig_yes (l := l) (b := 2) ⟨h.1, by omega, ht⟩
  exact ⟨h1, h2, ht⟩
end Go.Proofs.Ytjfaodbjmanfnaa
