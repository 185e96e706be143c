/- Plain laws of distances: symmetry, bounds, the triangle, common pitches. -/
import Derived.Test.YtajlopigpppeaaaDist
import Derived.Test.YtajlopigpppeaaaCom
namespace Go.Proofs.Ytajlopigpppeaaa
open Go.ChangeShapes Go.WideShapes Go.ChangeAt Go.RowKit
set_option linter.unusedVariables false
def csT (a b : List (Int × Int)) (i k : Nat) : Int := if pt a i = pt b k then 0 else 1
theorem cs_rng (a b : List (Int × Int)) (i k : Nat) : 0 ≤ csT a b i k ∧ csT a b i k ≤ 1 := by unfold csT; split <;> omega
theorem cs_sym (a b : List (Int × Int)) (i k : Nat) : csT a b i k = csT b a k i := by
  unfold csT
  by_cases h : pt a i = pt b k
  · rw [if_pos h, if_pos h.symm]
  · rw [if_neg h, if_neg (fun e => h e.symm)]
theorem cs_tri (a b c : List (Int × Int)) (i j k : Nat) : csT a c i k ≤ csT a b i j + csT b c j k := by
  unfold csT
  by_cases h1 : pt a i = pt b j
  · by_cases h2 : pt b j = pt c k
    · rw [if_pos h1, if_pos h2, if_pos (h1.trans h2)]; omega
    · rw [if_pos h1, if_neg h2]; split <;> omega
  · rw [if_neg h1]; split <;> split <;> omega
theorem dis_0 (a b : List (Int × Int)) (k : Nat) : dis a b 0 k = (k : Int) := by unfold dis; rfl
theorem dis_s0 (a b : List (Int × Int)) (i : Nat) : dis a b (i + 1) 0 = (i : Int) + 1 := by unfold dis; rfl
theorem dis_k0 (a b : List (Int × Int)) (i : Nat) : dis a b i 0 = (i : Int) := by
  cases i with
  | zero => rw [dis_0]
  | succ i => rw [dis_s0]; omega
theorem dis_ss (a b : List (Int × Int)) (i k : Nat) : dis a b (i + 1) (k + 1) = min (dis a b i k + csT a b i k) (min (dis a b i (k + 1)) (dis a b (i + 1) k) + 1) := by
  rw [dis]; rfl
theorem dis_le (a b : List (Int × Int)) (i k : Nat) : dis a b (i + 1) (k + 1) ≤ dis a b i k + csT a b i k ∧ dis a b (i + 1) (k + 1) ≤ dis a b i (k + 1) + 1 ∧ dis a b (i + 1) (k + 1) ≤ dis a b (i + 1) k + 1 := by
  rw [dis_ss]; omega
theorem dis_cases (a b : List (Int × Int)) (i k : Nat) : dis a b (i + 1) (k + 1) = dis a b i k + csT a b i k ∨ dis a b (i + 1) (k + 1) = dis a b i (k + 1) + 1 ∨ dis a b (i + 1) (k + 1) = dis a b (i + 1) k + 1 := by
  rw [dis_ss]; omega
theorem dis_sym (a b : List (Int × Int)) : ∀ i k, dis a b i k = dis b a k i
  | 0, k => by rw [dis_0, dis_k0]
  | i + 1, 0 => by rw [dis_0, dis_k0]
  | i + 1, k + 1 => by
    rw [dis_ss, dis_ss, dis_sym a b i k, dis_sym a b i (k + 1), dis_sym a b (i + 1) k, cs_sym a b i k]
    omega
theorem dis_low (a b : List (Int × Int)) : ∀ i k : Nat, (i : Int) - (k : Int) ≤ dis a b i k ∧ (k : Int) - (i : Int) ≤ dis a b i k ∧ dis a b i k ≤ max (i : Int) (k : Int)
  | 0, k => by rw [dis_0]; omega
  | i + 1, 0 => by rw [dis_s0]; omega
  | i + 1, k + 1 => by
    have h1 := dis_low a b i k
    have h2 := dis_low a b i (k + 1)
    have h3 := dis_low a b (i + 1) k
    have h4 := cs_rng a b i k
    rw [dis_ss]
    omega
theorem dis_self (a : List (Int × Int)) : ∀ i, dis a a i i = 0
  | 0 => by rw [dis_0]; rfl
  | i + 1 => by
    have h1 := dis_self a i
    have h2 := dis_rng a a (i + 1) (i + 1)
    have h3 := (dis_le a a i i).1
    have h4 : csT a a i i = 0 := if_pos rfl
    omega
theorem dis_tri (a b c : List (Int × Int)) : ∀ (N i j k : Nat), i + j + k ≤ N → dis a c i k ≤ dis a b i j + dis b c j k := by
  intro N
  induction N with
  | zero =>
    intro i j k h
    obtain rfl : i = 0 := by omega
    obtain rfl : j = 0 := by omega
    obtain rfl : k = 0 := by omega
    rw [dis_0, dis_0, dis_0]; omega
  | succ N ih =>
    intro i j k h
    cases i with
    | zero =>
      have := (dis_low b c j k).2.1
      rw [dis_0, dis_0]; omega
    | succ i =>
      cases k with
      | zero =>
        have := (dis_low a b (i + 1) j).1
        rw [dis_k0, dis_k0]; omega
      | succ k =>
        cases j with
        | zero =>
          have := (dis_low a c (i + 1) (k + 1)).2.2
          rw [dis_k0, dis_0]; omega
        | succ j =>
          obtain ⟨l1, l2, l3⟩ := dis_le a c i k
          have c1 := cs_rng a b i j
          have c2 := cs_rng b c j k
          have c3 := cs_tri a b c i j k
          rcases dis_cases a b i j with e | e | e
          · rcases dis_cases b c j k with f | f | f
            · have := ih i j k (by omega)
              omega
            · have := ih i j (k + 1) (by omega)
              omega
            · have := ih (i + 1) (j + 1) k (by omega)
              omega
          · have := ih i (j + 1) (k + 1) (by omega)
            omega
          · rcases dis_cases b c j k with f | f | f
            · have := ih (i + 1) j k (by omega)
              omega
            · have := ih (i + 1) j (k + 1) (by omega)
              omega
            · have := ih (i + 1) (j + 1) k (by omega)
              omega
theorem com_0 (a b : List (Int × Int)) (k : Nat) : com a b 0 k = 0 := com_zero a b k
theorem com_k0 (a b : List (Int × Int)) (i : Nat) : com a b i 0 = 0 := by
  cases i with
  | zero => exact com_zero a b 0
  | succ i => unfold com; rfl
theorem com_ge (a b : List (Int × Int)) (i k : Nat) : com a b i (k + 1) ≤ com a b (i + 1) (k + 1) ∧ com a b (i + 1) k ≤ com a b (i + 1) (k + 1) ∧ (csT a b i k = 0 → com a b i k + 1 ≤ com a b (i + 1) (k + 1)) := by
  have h1 := com_rng a b i (k + 1)
  by_cases h : pt a i = pt b k
  · rw [com_eq h]; refine ⟨by omega, by omega, fun _ => by omega⟩
  · rw [com_ne h]
    refine ⟨by omega, by omega, fun q => ?_⟩
    unfold csT at q; rw [if_neg h] at q; omega
theorem com_sym (a b : List (Int × Int)) : ∀ i k, com a b i k = com b a k i
  | 0, k => by rw [com_0, com_k0]
  | i + 1, 0 => by rw [com_0, com_k0]
  | i + 1, k + 1 => by
    have h1 := com_sym a b i (k + 1)
    have h2 := com_sym a b (i + 1) k
    have h3 := com_sym a b i k
    by_cases h : pt a i = pt b k
    · rw [com_eq h, com_eq h.symm]; omega
    · rw [com_ne h, com_ne (fun e => h e.symm)]; omega
theorem com_mono (a b : List (Int × Int)) (i k : Nat) : com a b i k ≤ com a b (i + 1) k := by
  cases k with
  | zero => rw [com_k0, com_k0]; omega
  | succ k => exact (com_ge a b i k).1
theorem com_step (a b : List (Int × Int)) : ∀ i k : Nat, com a b (i + 1) k ≤ com a b i k + 1 ∧ com a b i (k + 1) ≤ com a b i k + 1
  | 0, 0 => by rw [com_k0, com_0, com_0]; omega
  | 0, k + 1 => by
    refine ⟨?_, by rw [com_0, com_0]; omega⟩
    have h1 := com_step a b 0 k
    have h2 := com_0 a b (k + 1)
    have h3 := com_0 a b k
    by_cases h : pt a 0 = pt b k
    · rw [com_eq h]; omega
    · rw [com_ne h]; omega
  | i + 1, 0 => by
    refine ⟨by rw [com_k0, com_k0]; omega, ?_⟩
    have h1 := com_step a b i 0
    have h2 := com_k0 a b (i + 1)
    have h3 := com_k0 a b i
    by_cases h : pt a i = pt b 0
    · rw [com_eq h]; omega
    · rw [com_ne h]; omega
  | i + 1, k + 1 => by
    have h1 := com_step a b i (k + 1)
    have h2 := com_step a b (i + 1) k
    have h3 := com_step a b i k
    have g1 := com_ge a b i k
    constructor
    · by_cases h : pt a (i + 1) = pt b k
      · rw [com_eq h]; omega
      · rw [com_ne h]; omega
    · by_cases h : pt a i = pt b (k + 1)
      · rw [com_eq h]; omega
      · rw [com_ne h]; omega
termination_by i k => i + k
theorem dis_com (a b : List (Int × Int)) : ∀ i k : Nat, dis a b i k ≤ (i : Int) + (k : Int) - 2 * com a b i k ∧ (i : Int) ≤ dis a b i k + com a b i k ∧ (k : Int) ≤ dis a b i k + com a b i k
  | 0, k => by rw [dis_0, com_0]; omega
  | i + 1, 0 => by rw [dis_s0, com_k0]; omega
  | i + 1, k + 1 => by
    have h1 := dis_com a b i k
    have h2 := dis_com a b i (k + 1)
    have h3 := dis_com a b (i + 1) k
    have g := com_ge a b i k
    have c := cs_rng a b i k
    have l := dis_le a b i k
    have m1 := com_mono a b i k
    refine ⟨?_, ?_⟩
    · by_cases h : pt a i = pt b k
      · have hc : csT a b i k = 0 := if_pos h
        rw [com_eq h]; omega
      · rw [com_ne h]; omega
    · rcases dis_cases a b i k with e | e | e
      · by_cases hc : csT a b i k = 0
        · have := g.2.2 hc; omega
        · omega
      · omega
      · omega
theorem com_self (a : List (Int × Int)) : ∀ i : Nat, com a a i i = (i : Int) := fun i => by
  have h1 := dis_com a a i i
  have h2 := dis_self a i
  omega
theorem dis_zero {a b : List (Int × Int)} : ∀ i : Nat, dis a b i i = 0 → ∀ j, j < i → pt a j = pt b j
  | 0, _, j, hj => by omega
  | i + 1, h, j, hj => by
    have r1 := (dis_low a b i (i + 1)).2.1
    have r2 := (dis_low a b (i + 1) i).1
    have r3 := dis_rng a b i i
    have c := cs_rng a b i i
    rcases dis_cases a b i i with e | e | e
    · have hc : csT a b i i = 0 := by omega
      by_cases hji : j = i
      · subst hji
        unfold csT at hc
        by_cases q : pt a j = pt b j
        · exact q
        · rw [if_neg q] at hc; omega
      · exact dis_zero i (by omega) j (by omega)
    · omega
    · omega
theorem dis_same {a b : List (Int × Int)} : ∀ i : Nat, (∀ j, j < i → pt a j = pt b j) → dis a b i i = 0
  | 0, _ => by rw [dis_0]; rfl
  | i + 1, h => by
    have h1 := dis_same i (fun j hj => h j (by omega))
    have h2 := dis_rng a b (i + 1) (i + 1)
    have h3 := (dis_le a b i i).1
    have h4 : csT a b i i = 0 := if_pos (h i (by omega))
    omega
end Go.Proofs.Ytajlopigpppeaaa
