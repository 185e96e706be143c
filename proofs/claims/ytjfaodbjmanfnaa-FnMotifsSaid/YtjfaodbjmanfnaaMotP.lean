/- Plain laws of FnMotifs: how many forms, the longest repeat, the places of a part. -/
import Derived.Test.YtjfaodbjmanfnaaMot
import Derived.Test.YtjfaodbjmanfnaaRepI
import Derived.Test.YtjfaodbjmanfnaaOccs
import Derived.Test.YtjfaodbjmanfnaaHigS
import Derived.Test.YtjfaodbjmanfnaaLawH
namespace Go.Proofs.Ytjfaodbjmanfnaa
open Go.ChangeShapes Go.WideShapes Go.ChangeAt Go.RowKit
set_option linter.unusedVariables false
theorem rp_iff (t : List (Int × Int)) (i k m M : Nat) (h1 : 1 ≤ m) : m ≤ rpZ t i k M ↔ m ≤ M ∧ smN t i k m := by
  constructor
  · intro h
    exact ⟨Nat.le_trans h (rpZ_le t i k M), smN_mono (rpZ_sm t i k M) h⟩
  · rintro ⟨h, hs⟩
    exact rpZ_max hs M h
theorem lrI_iff (t : List (Int × Int)) (i a m : Nat) (h1 : 1 ≤ m) : ∀ d, m ≤ lrI t i a d ↔ m ≤ a ∨ ∃ k, i < k ∧ k < i + 1 + d ∧ m ≤ t.length - k ∧ smN t i k m
  | 0 => by
    constructor
    · intro h; exact Or.inl h
    · rintro (h | ⟨k, a, b, _⟩)
      · exact h
      · omega
  | d + 1 => by
    have ih := lrI_iff t i a m h1 d
    have e : lrI t i a (d + 1) = max (lrI t i a d) (rpZ t i (i + 1 + d) (t.length - (i + 1 + d))) := rfl
    have hr := rp_iff t i (i + 1 + d) m (t.length - (i + 1 + d)) h1
    rw [e]
    constructor
    · intro h
      by_cases hq : m ≤ lrI t i a d
      · rcases ih.1 hq with h | ⟨k, a, b, c⟩
        · exact Or.inl h
        · exact Or.inr ⟨k, a, by omega, c⟩
      · obtain ⟨x, y⟩ := hr.1 (by omega)
        exact Or.inr ⟨i + 1 + d, by omega, by omega, x, y⟩
    · rintro (h | ⟨k, ha, hb, hc⟩)
      · have := ih.2 (Or.inl h); omega
      · by_cases hk : k = i + 1 + d
        · subst hk; have := hr.2 hc; omega
        · have := ih.2 (Or.inr ⟨k, ha, by omega, hc⟩); omega
theorem lrZ_iff (t : List (Int × Int)) (m : Nat) (h1 : 1 ≤ m) : ∀ I, I ≤ t.length → (m ≤ lrZ t I ↔ ∃ i k, i < I ∧ i < k ∧ k + m ≤ t.length ∧ smN t i k m)
  | 0, _ => by
    constructor
    · intro h; simp [lrZ] at h; omega
    · rintro ⟨i, k, h, _⟩; omega
  | I + 1, hI => by
    have ih := lrZ_iff t m h1 I (by omega)
    have e : lrZ t (I + 1) = lrI t I (lrZ t I) (t.length - (I + 1)) := rfl
    have hr := lrI_iff t I (lrZ t I) m h1 (t.length - (I + 1))
    rw [e]
    constructor
    · intro h
      rcases hr.1 h with h | ⟨k, a, b, c, d⟩
      · obtain ⟨i, k, a, b⟩ := ih.1 h
        exact ⟨i, k, by omega, b⟩
      · exact ⟨I, k, by omega, a, by omega, d⟩
    · rintro ⟨i, k, a, b, c, d⟩
      by_cases hi : i = I
      · subst hi
        exact hr.2 (Or.inr ⟨k, b, by omega, by omega, d⟩)
      · exact hr.2 (Or.inl (ih.2 ⟨i, k, by omega, b, c, d⟩))
theorem fr_iff (t : List (Int × Int)) (n k : Nat) : ∀ j, frTo t n k j = false ↔ ∃ i, i < j ∧ samB (subL t i n) (subL t k n) = true
  | 0 => by simp [frTo]
  | j + 1 => by
    have ih := fr_iff t n k j
    unfold frTo
    constructor
    · intro h
      cases hf : frTo t n k j
      · obtain ⟨i, a, b⟩ := ih.1 hf; exact ⟨i, by omega, b⟩
      · rw [hf] at h
        exact ⟨j, by omega, by simpa using h⟩
    · rintro ⟨i, a, b⟩
      by_cases hi : i = j
      · subst hi; rw [b]; simp
      · rw [ih.2 ⟨i, by omega, b⟩]; rfl
theorem cm_lt (t : List (Int × Int)) (n : Nat) : ∀ K, cmZ t n K < (K : Int) ↔ ∃ k, k < K ∧ frTo t n k k = false
  | 0 => by simp [cmZ]
  | K + 1 => by
    have ih := cm_lt t n K
    have hr := cmZ_rng t n K
    cases hf : frTo t n K K
    · rw [cm_no hf]
      constructor
      · intro _; exact ⟨K, by omega, hf⟩
      · intro _; omega
    · rw [cm_yes hf]
      constructor
      · intro h
        obtain ⟨k, a, b⟩ := ih.1 (by omega)
        exact ⟨k, by omega, b⟩
      · rintro ⟨k, a, b⟩
        by_cases hk : k = K
        · subst hk; rw [hf] at b; cases b
        · have := ih.2 ⟨k, by omega, b⟩; omega
theorem cm_pos (t : List (Int × Int)) (n : Nat) : ∀ K, 1 ≤ K → 1 ≤ cmZ t n K
  | 0, h => by omega
  | K + 1, _ => by
    by_cases h0 : K = 0
    · subst h0
      have hf : frTo t n 0 0 = true := by unfold frTo; rfl
      rw [cm_yes hf]
      have := (cmZ_rng t n 0).1
      omega
    · have := cm_pos t n K (by omega)
      unfold cmZ; split <;> omega
/-- The number of forms against the longest repeat. -/
theorem mot_law {t : List (Int × Int)} (hB : tuneB t = true) {m : Nat} (h1 : 1 ≤ m) (h2 : m ≤ t.length) (h40 : t.length ≤ 40) :
    ∃ c : Int, motB t m = c ∧ 1 ≤ c ∧ c ≤ (t.length : Int) - m + 1 ∧ (c < (t.length : Int) - m + 1 ↔ (m : Int) ≤ (lrZ t t.length : Int)) := by
  have hr := cmZ_rng t m (t.length + 1 - m)
  have hp := cm_pos t m (t.length + 1 - m) (by omega)
  have hl := Lib.hid (cm_lt t m (t.length + 1 - m))
  have hz := Lib.hid (lrZ_iff t m h1 t.length (Nat.le_refl _))
  refine ⟨cmZ t m (t.length + 1 - m), motB_at (t := t) (n := m) ⟨hB, by omega, by omega⟩, hp, by omega, ?_⟩
  rw [show (t.length : Int) - m + 1 = ((t.length + 1 - m : Nat) : Int) by omega, hl.out, Int.ofNat_le, hz.out]
  constructor
  · rintro ⟨k, hk, hf⟩
    obtain ⟨i, hi, hs⟩ := (fr_iff t m k k).1 hf
    rw [samB_sub hB (by omega) (by omega)] at hs
    exact ⟨i, k, by omega, hi, by omega, of_decide_eq_true hs⟩
  · rintro ⟨i, k, a, b, c, d⟩
    exact ⟨k, by omega, (fr_iff t m k k).2 ⟨i, b, by rw [samB_sub hB (by omega) (by omega)]; exact decide_eq_true d⟩⟩
theorem rep_law (t : List (Int × Int)) : (0 < t.length → lrZ t t.length < t.length) ∧ (1 < t.length → 1 ≤ lrZ t t.length) := by
  constructor
  · intro h
    by_cases h0 : lrZ t t.length = 0
    · omega
    · obtain ⟨i, k, a, b, c, d⟩ := (lrZ_iff t (lrZ t t.length) (by omega) t.length (Nat.le_refl _)).1 (Nat.le_refl _)
      omega
  · intro h
    exact (lrZ_iff t 1 (by omega) t.length (Nat.le_refl _)).2 ⟨0, 1, by omega, by omega, by omega, smN_one t 0 1⟩
theorem mot_40 {t : List (Int × Int)} (hB : tuneB t = true) (h : t.length < 40) : motB t 40 = 0 := by
  have e := motB_at (t := t) (n := 40) ⟨hB, by omega, by omega⟩
  have e2 : t.length + 1 - 40 = 0 := by omega
  rw [e2] at e
  exact e
theorem sub_at {t : List (Int × Int)} {f m j : Nat} (h : j < m) : tm (subL t f m) j = tm t (f + j) ∧ pt (subL t f m) j = pt t (f + j) := by
  unfold tm pt; rw [subL_get h]; exact ⟨rfl, rfl⟩
theorem par_law {t : List (Int × Int)} (hB : tuneB t = true) {f m : Nat} (h1 : 1 ≤ m) (h2 : f + m ≤ t.length) :
    parB t f m = true ∧ parZ t f m = subL t f m ∧ (subL t f m).length = m ∧ tuneB (subL t f m) = true ∧ occB t (subL t f m) f = true := by
  have hp : tuneB t = true ∧ parP t f m := ⟨hB, ⟨by omega, by omega⟩, by omega, by omega⟩
  have hT := tune_sub hB h2
  refine ⟨decide_eq_true hp, ?_, subL_len h2, hT, ?_⟩
  · unfold parZ; rw [if_pos hp]; rfl
  · rw [occB_at ⟨hB, hT, by rw [subL_len h2]; omega, by omega, by omega⟩]
    refine decide_eq_true fun i hi => ?_
    rw [subL_len h2] at hi
    have e1 := sub_at (t := t) (f := f) hi
    have e0 := sub_at (t := t) (f := f) (show 0 < m by omega)
    have a1 : mvT t (subL t f m) f i = tm t (f + i) := by unfold mvT; rw [e1.1, e0.1, Nat.add_zero]; omega
    have a2 : mvP t (subL t f m) f i = pt t (f + i) := by unfold mvP; rw [e1.2, e0.2, Nat.add_zero]; omega
    unfold occAt
    rw [a1, a2]
    exact hasN_at (show f + i < t.length by omega) ⟨rfl, rfl⟩
theorem par_no {t : List (Int × Int)} : parB t 0 ((t.length : Int) + 1) = false := decide_eq_false fun h => by
  have := h.2.2.2; omega
theorem ocs_mem {t m : List (Int × Int)} (x : Int) : ∀ K, x ∈ ocsZ t m K ↔ ∃ k : Nat, k < K ∧ x = (k : Int) ∧ occB t m (k : Int) = true
  | 0 => by simp [ocsZ]
  | K + 1 => by
    have ih := ocs_mem (t := t) (m := m) x K
    cases hf : occB t m (K : Int)
    · rw [ocs_no hf, ih]
      constructor
      · rintro ⟨k, a, b, c⟩; exact ⟨k, by omega, b, c⟩
      · rintro ⟨k, a, b, c⟩
        by_cases hk : k = K
        · subst hk; rw [hf] at c; cases c
        · exact ⟨k, by omega, b, c⟩
    · rw [ocs_yes hf, List.mem_append, List.mem_singleton, ih]
      constructor
      · rintro (⟨k, a, b, c⟩ | h)
        · exact ⟨k, by omega, b, c⟩
        · exact ⟨K, by omega, h, hf⟩
      · rintro ⟨k, a, b, c⟩
        by_cases hk : k = K
        · subst hk; exact Or.inr b
        · exact Or.inl ⟨k, by omega, b, c⟩
theorem ocs_has {t m : List (Int × Int)} {f : Nat} (h : occB t m (f : Int) = true) (hf : f < t.length) : hasI (ocsZ t m t.length) f = true := decide_eq_true ((ocs_mem _ _).2 ⟨f, hf, rfl, h⟩)
theorem ocs_each {t m : List (Int × Int)} {k : Nat} (hk : k < (ocsZ t m t.length).length) : occB t m (gt (ocsZ t m t.length) k) = true ∧ 0 ≤ gt (ocsZ t m t.length) k ∧ gt (ocsZ t m t.length) k ≤ (t.length : Int) := by
  have hm : gt (ocsZ t m t.length) k ∈ ocsZ t m t.length := by
    have e : gt (ocsZ t m t.length) k = (ocsZ t m t.length)[k] := by simp [gt, hk]
    rw [e]; exact List.getElem_mem hk
  obtain ⟨j, a, b, c⟩ := (ocs_mem _ _).1 hm
  rw [b]; exact ⟨c, by omega, by omega⟩
theorem hig_at {l : List (Int × Int)} {b : Int} {j : Nat} (h : j < l.length) : tm (higL l b) j = tm l j ∧ pt (higL l b) j = pt l j + b := by
  unfold tm pt
  rw [higL_map]
  simp [List.getD, h]
theorem occ_hig {t p : List (Int × Int)} (hB : tuneB p = true) (hQ : higB p 1 = true) (k : Int) : occB t (higL p 1) k = occB t p k := by
  have hq := (of_decide_eq_true hQ).2.2
  have ho : occOk t (higL p 1) k ↔ occOk t p k := by
    unfold occOk
    rw [higL_len, hB, hq]
  by_cases h : occOk t p k
  · obtain ⟨n, rfl⟩ : ∃ n : Nat, k = (n : Int) := ⟨k.toNat, by have := h.2.2.2.1; omega⟩
    rw [occB_at h, occB_at (ho.2 h)]
    refine decide_eq_decide.2 ?_
    unfold occP
    rw [higL_len]
    have h0 := h.2.2.1
    have key : ∀ i, i < p.length → (occAt t (higL p 1) n i ↔ occAt t p n i) := by
      intro i hi
      have e1 := hig_at (b := 1) hi
      have e0 := hig_at (b := 1) h0
      have a1 : mvT t (higL p 1) n i = mvT t p n i := by unfold mvT; rw [e1.1, e0.1]
      have a2 : mvP t (higL p 1) n i = mvP t p n i := by unfold mvP; rw [e1.2, e0.2]; omega
      unfold occAt
      rw [a1, a2]
    exact ⟨fun H i hi => (key i hi).1 (H i hi), fun H i hi => (key i hi).2 (H i hi)⟩
  · rw [occB_no h, occB_no (fun q => h (ho.1 q))]
theorem ocs_hig {t p : List (Int × Int)} (hB : tuneB p = true) (hQ : higB p 1 = true) : ∀ K, ocsZ t (higL p 1) K = ocsZ t p K
  | 0 => rfl
  | K + 1 => by
    have ih := ocs_hig (t := t) hB hQ K
    unfold ocsZ
    rw [ih, occ_hig hB hQ]
def fourL : List (Int × Int) := [(0, 3), (2, 4), (4, 3), (6, 4)]
theorem four_tune : tuneB fourL = true := by
  rw [tuneB_all]
  · rfl
  · intro k hk
    have hk4 : k < 4 := hk
    match k, hk4 with
    | 0, _ => exact ⟨⟨by decide, by decide⟩, ⟨by decide, by decide⟩, fun h => absurd h (by omega)⟩
    | 1, _ => exact ⟨⟨by decide, by decide⟩, ⟨by decide, by decide⟩, fun _ => rfl⟩
    | 2, _ => exact ⟨⟨by decide, by decide⟩, ⟨by decide, by decide⟩, fun _ => rfl⟩
    | 3, _ => exact ⟨⟨by decide, by decide⟩, ⟨by decide, by decide⟩, fun _ => rfl⟩
theorem four_rep : repB fourL = 2 := by
  rw [repB_yes four_tune]
  have h2 : 2 ≤ lrZ fourL 4 := (lrZ_iff fourL 2 (by omega) 4 (by decide)).2 ⟨0, 2, by omega, by omega, by decide, fun j hj => by
    match j, hj with
    | 0, _ => exact ⟨by decide, by decide⟩
    | 1, _ => exact ⟨by decide, by decide⟩⟩
  have h3 : ¬ 3 ≤ lrZ fourL 4 := fun h => by
    obtain ⟨i, k, a, b, c, d⟩ := (lrZ_iff fourL 3 (by omega) 4 (by decide)).1 h
    have hl : fourL.length = 4 := rfl
    have hk : k = 1 := by omega
    have hi : i = 0 := by omega
    subst hk; subst hi
    have := (d 1 (by omega)).2
    exact absurd this (by decide)
  show ((lrZ fourL 4 : Nat) : Int) = 2
  omega
end Go.Proofs.Ytjfaodbjmanfnaa
