/- Turns of a set of twelve: a turn and back, and the symmetries. -/
import Derived.Test.YtjfaodbjmanfnaaScaleC
namespace Go.Proofs.Ytjfaodbjmanfnaa
open Go.RowKit
set_option linter.unusedVariables false
theorem rot_step_all : ∀ b, b < 11 → ∀ h, h < 64 → ∀ l, l < 64 → rotN (64 * h + l) (b + 1) = rotN (rotN (64 * h + l) b) 1 := by decide +kernel
theorem rot_ends_all : ∀ h, h < 64 → ∀ l, l < 64 → rotN (64 * h + l) 0 = 64 * h + l ∧ rotN (rotN (64 * h + l) 11) 1 = 64 * h + l ∧ rotN (64 * h + l) 1 < 4096 := by decide +kernel
theorem split64 (s : Nat) : s = 64 * (s / 64) + s % 64 := by omega
theorem rot_step {s b : Nat} (hs : s < 4096) (hb : b < 11) : rotN s (b + 1) = rotN (rotN s b) 1 := by
  have := rot_step_all b hb (s / 64) (by omega) (s % 64) (by omega)
  rwa [← split64] at this
theorem rot_ends {s : Nat} (hs : s < 4096) : rotN s 0 = s ∧ rotN (rotN s 11) 1 = s ∧ rotN s 1 < 4096 := by
  have := rot_ends_all (s / 64) (by omega) (s % 64) (by omega)
  rwa [← split64] at this
/-- n single turns. -/
def itR : Nat → Nat → Nat
  | 0, s => s
  | n + 1, s => rotN (itR n s) 1
theorem itR_lt {s : Nat} (hs : s < 4096) : ∀ n, itR n s < 4096
  | 0 => hs
  | n + 1 => (rot_ends (itR_lt hs n)).2.2
theorem itR_add (a s : Nat) : ∀ b, itR (b + a) s = itR b (itR a s)
  | 0 => by rw [Nat.zero_add]; rfl
  | b + 1 => by rw [Nat.add_right_comm]; unfold itR; rw [itR_add a s b]
theorem itR_eq {s : Nat} (hs : s < 4096) : ∀ b, b < 12 → rotN s b = itR b s
  | 0, _ => (rot_ends hs).1
  | b + 1, h => by rw [rot_step hs (by omega), itR_eq hs b (by omega)]; rfl
theorem itR_12 {s : Nat} (hs : s < 4096) : itR 12 s = s := by
  show rotN (itR 11 s) 1 = s
  rw [← itR_eq hs 11 (by omega)]
  exact (rot_ends hs).2.1
theorem rotN_lt {s b : Nat} (hs : s < 4096) (hb : b < 12) : rotN s b < 4096 := by rw [itR_eq hs b hb]; exact itR_lt hs b
theorem rot_back {s b : Nat} (hs : s < 4096) (hb : b < 12) : rotN (rotN s b) ((12 - b) % 12) = s := by
  rw [itR_eq (rotN_lt hs hb) _ (Nat.mod_lt _ (by omega)), itR_eq hs b hb, ← itR_add]
  by_cases h : b = 0
  · subst h; rfl
  · rw [Nat.mod_eq_of_lt (by omega), Nat.sub_add_cancel (by omega)]
    exact itR_12 hs
theorem rot_fix {s b c : Nat} (hs : s < 4096) (hb : b < 12) (hc : c < 12) : rotN (rotN s b) c = rotN s b ↔ rotN s c = s := by
  have e1 : rotN (rotN s b) c = rotN (rotN s c) b := by
    rw [itR_eq (rotN_lt hs hb) c hc, itR_eq hs b hb, itR_eq (rotN_lt hs hc) b hb, itR_eq hs c hc, ← itR_add, ← itR_add, Nat.add_comm]
  rw [e1]
  constructor
  · intro h
    have h2 : rotN (rotN (rotN s c) b) ((12 - b) % 12) = rotN (rotN s b) ((12 - b) % 12) := by rw [h]
    rwa [rot_back (rotN_lt hs hc) hb, rot_back hs hb] at h2
  · intro h; rw [h]
theorem rotZ_nat {s b : Nat} (hs : s < 4096) (hb : b < 12) : rotZ (s : Int) (b : Int) = ((rotN s b : Nat) : Int) := by
  unfold rotZ
  rw [if_pos ⟨by omega, by omega, by omega, by omega⟩]
  simp
/-- How many of the first k turns leave the set as it is, in natural numbers. -/
def symN (s : Nat) : Nat → Nat
  | 0 => 0
  | k + 1 => symN s k + (if rotN s k = s then 1 else 0)
theorem sym_nat {s : Nat} (hs : s < 4096) : ∀ k, k ≤ 12 → symTo (s : Int) k = ((symN s k : Nat) : Int)
  | 0, _ => rfl
  | k + 1, h => by
    unfold symTo symN
    rw [sym_nat hs k (by omega), rotZ_nat hs (by omega)]
    by_cases e : rotN s k = s
    · rw [if_pos e, if_pos (by rw [e])]; rfl
    · rw [if_neg e, if_neg (by intro h; exact e (by omega))]; rfl
theorem sym_turn {s b : Nat} (hs : s < 4096) (hb : b < 12) : ∀ k, k ≤ 12 → symN (rotN s b) k = symN s k
  | 0, _ => rfl
  | k + 1, h => by
    unfold symN
    rw [sym_turn hs hb k (by omega)]
    by_cases e : rotN s k = s
    · rw [if_pos e, if_pos ((rot_fix hs hb (by omega)).2 e)]
    · rw [if_neg e, if_neg (fun h1 => e ((rot_fix hs hb (by omega)).1 h1))]
theorem sym_div_all : ∀ h, h < 64 → ∀ l, l < 64 → 0 < symN (64 * h + l) 12 ∧ 12 % symN (64 * h + l) 12 = 0 := by decide +kernel
theorem sym_div {s : Nat} (hs : s < 4096) : 0 < symN s 12 ∧ 12 % symN s 12 = 0 := by
  have := sym_div_all (s / 64) (by omega) (s % 64) (by omega)
  rwa [← split64] at this
/-- What the law asks of a set x and a turn by. -/
theorem rot_law {x b : Int} (hx : 0 ≤ x ∧ x ≤ 4095) (hb : 0 ≤ b ∧ b ≤ 11) :
    rotZ (rotZ x b) ((12 - b) % 12) = x ∧ 1 ≤ symZ x ∧ symZ x ≤ 12 ∧ (12 : Int) % symZ x = 0 ∧ symZ x = symZ (rotZ x b) ∧ 0 ≤ rotZ x b ∧ rotZ x b ≤ 4095 := by
  obtain ⟨s, rfl⟩ := Int.eq_ofNat_of_zero_le hx.1
  obtain ⟨c, rfl⟩ := Int.eq_ofNat_of_zero_le hb.1
  have hs : s < 4096 := by omega
  have hc : c < 12 := by omega
  have hr := rotN_lt hs hc
  have e1 : ((12 : Int) - (c : Int)) % 12 = (((12 - c) % 12 : Nat) : Int) := by omega
  have z1 : symZ (s : Int) = ((symN s 12 : Nat) : Int) := by unfold symZ; rw [if_pos (by omega)]; exact sym_nat hs 12 (by omega)
  have z2 : symZ ((rotN s c : Nat) : Int) = ((symN (rotN s c) 12 : Nat) : Int) := by unfold symZ; rw [if_pos (by omega)]; exact sym_nat hr 12 (by omega)
  obtain ⟨d1, d2⟩ := sym_div hs
  have d3 := symTo_bd (s : Int) 12
  rw [sym_nat hs 12 (by omega)] at d3
  rw [rotZ_nat hs hc, e1, rotZ_nat hr (Nat.mod_lt _ (by omega)), rot_back hs hc, z1, z2, sym_turn hs hc 12 (by omega)]
  refine ⟨rfl, by omega, by omega, ?_, rfl, by omega, by omega⟩
  exact_mod_cast d2
theorem sym_1365 : symZ 1365 = 6 := by decide +kernel
theorem maj_12 : rotZ 2741 12 = -1 := by decide
theorem maj_0 : rotZ 2741 0 = 2741 := by decide
end Go.Proofs.Ytjfaodbjmanfnaa
