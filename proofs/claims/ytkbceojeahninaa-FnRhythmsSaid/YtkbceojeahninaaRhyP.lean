/- Plain laws of FnRhythms: a rhythm moved around; its least period; beats that are spread; gaps. -/
import Derived.Test.YtkbceojeahninaaRhythmC
import Derived.Test.YtkbceojeahninaaRhythmD
import Derived.Test.YtkbceojeahninaaSpread
import Derived.Test.YtkbceojeahninaaGaps
import Derived.Test.YtkbceojeahninaaQuietest
import Derived.Test.YtkbceojeahninaaLat
import Derived.Test.YtkbceojeahninaaLawH
namespace Go.Proofs.Ytkbceojeahninaa
open Go.ChangeShapes Go.WideShapes Go.ChangeAt Go.RowKit
set_option linter.unusedVariables false
theorem mem_iff {l : List Int} {x : Int} : memB l x = true ↔ x ∈ l := by
  unfold memB
  rw [decide_eq_true_iff]
  constructor
  · rintro ⟨i, hi, e⟩
    rw [← e, show gt l i = l[i] by simp [gt, hi]]
    exact List.getElem_mem hi
  · intro h
    obtain ⟨i, hi, e⟩ := List.getElem_of_mem h
    exact ⟨i, hi, by simp [gt, hi, e]⟩
theorem has_mem {l : List Int} {x : Int} : hasI l x = true ↔ x ∈ l := decide_eq_true_iff
/-- A rhythm: rising numbers below s. -/
def rhy (l : List Int) (s : Nat) : Prop := (1 ≤ s ∧ s ≤ 96) ∧ l.Pairwise (· < ·) ∧ ∀ x ∈ l, 0 ≤ x ∧ x < (s : Int)
theorem rhy_ris {l : List Int} {s : Nat} (h : rhy l s) : rhB l s = true := by
  unfold rhB
  rw [decide_eq_true (show (1 : Int) ≤ (s : Int) ∧ (s : Int) ≤ 96 by have := h.1; omega), Bool.true_and]
  refine ris_yes fun i hi => ?_
  have e : gt l i = l[i] := by simp [gt, hi]
  have hm := h.2.2 _ (List.getElem_mem hi)
  refine ⟨by rw [e]; omega, fun h0 => ?_⟩
  have hi1 : i - 1 < l.length := by omega
  have e1 : gt l (i - 1) = l[i - 1] := by simp [gt, hi1]
  rw [e, e1]
  exact List.pairwise_iff_getElem.1 h.2.1 (i - 1) i hi1 hi (by omega)
theorem rhy_nodup {l : List Int} {s : Nat} (h : rhy l s) : l.Nodup := by
  unfold List.Nodup
  exact h.2.1.imp fun hxy => by omega
theorem len_le {l m : List Int} (f : Int → Int) (hl : l.Nodup) (hi : ∀ x ∈ l, ∀ y ∈ l, f x = f y → x = y) (hm : ∀ x ∈ l, f x ∈ m) : l.length ≤ m.length := by
  have hn : (l.map f).Nodup := by
    unfold List.Nodup at *
    rw [List.pairwise_map]
    exact List.Pairwise.imp_of_mem (fun {a b} ha hb hab e => hab (hi a ha b hb e)) hl
  have h := hn.length_le_of_subset (l₂ := m) (by
    intro x hx
    obtain ⟨y, hy, rfl⟩ := List.mem_map.1 hx
    exact hm y hy)
  rwa [List.length_map] at h
def ups (s : Nat) : List Int := (List.range s).map fun (k : Nat) => (k : Int)
theorem ups_len (s : Nat) : (ups s).length = s := by simp [ups]
theorem ups_mem {s : Nat} {x : Int} (h : 0 ≤ x ∧ x < (s : Int)) : x ∈ ups s := by
  unfold ups
  rw [List.mem_map]
  exact ⟨x.toNat, by rw [List.mem_range]; omega, by omega⟩
theorem rhy_len {l : List Int} {s : Nat} (h : rhy l s) : l.length ≤ s := by
  have := len_le (m := ups s) (fun x => x) (rhy_nodup h) (fun _ _ _ _ e => e) (fun x hx => ups_mem (h.2.2 x hx))
  rwa [ups_len] at this
/-- The rhythm moved around by b, up to k. -/
def rotTo (l : List Int) (s b : Nat) : Nat → List Int
  | 0 => []
  | k + 1 => if hasI l (((k : Int) + s - b) % s) = true then rotTo l s b k ++ [(k : Int)] else rotTo l s b k
theorem rot_yes {l : List Int} {s b k : Nat} (h : hasI l (((k : Int) + s - b) % s) = true) : rotTo l s b (k + 1) = rotTo l s b k ++ [(k : Int)] := if_pos h
theorem rot_no {l : List Int} {s b k : Nat} (h : hasI l (((k : Int) + s - b) % s) = false) : rotTo l s b (k + 1) = rotTo l s b k := if_neg (by rw [h]; simp)
theorem rot_len (l : List Int) (s b : Nat) : ∀ k, (rotTo l s b k).length ≤ k
  | 0 => Nat.le_refl _
  | k + 1 => by have := rot_len l s b k; unfold rotTo; split <;> simp <;> omega
theorem rot_mem {l : List Int} {s b : Nat} {x : Int} : ∀ k, x ∈ rotTo l s b k ↔ ∃ j : Nat, j < k ∧ x = (j : Int) ∧ ((j : Int) + s - b) % s ∈ l
  | 0 => by simp [rotTo]
  | k + 1 => by
    have ih := rot_mem (l := l) (s := s) (b := b) (x := x) k
    cases hh : hasI l (((k : Int) + s - b) % s)
    · rw [rot_no hh, ih]
      constructor
      · rintro ⟨j, a, b, c⟩; exact ⟨j, by omega, b, c⟩
      · rintro ⟨j, a, b, c⟩
        by_cases e : j = k
        · subst e; rw [has_mem.2 c] at hh; cases hh
        · exact ⟨j, by omega, b, c⟩
    · rw [rot_yes hh, List.mem_append, List.mem_singleton, ih]
      constructor
      · rintro (⟨j, a, b, c⟩ | e)
        · exact ⟨j, by omega, b, c⟩
        · exact ⟨k, by omega, e, has_mem.1 hh⟩
      · rintro ⟨j, a, b, c⟩
        by_cases e : j = k
        · subst e; exact Or.inr b
        · exact Or.inl ⟨j, by omega, b, c⟩
theorem rot_asc (l : List Int) (s b : Nat) : ∀ k, (rotTo l s b k).Pairwise (· < ·)
  | 0 => List.Pairwise.nil
  | k + 1 => by
    have ih := rot_asc l s b k
    unfold rotTo
    split
    · rw [List.pairwise_append]
      refine ⟨ih, by simp, fun x hx y hy => ?_⟩
      rw [List.mem_singleton] at hy
      obtain ⟨j, a, e, _⟩ := (rot_mem k).1 hx
      rw [e, hy]; omega
    · exact ih
def rotL (l : List Int) (s b : Nat) : List Int := rotTo l s b s
theorem rotL_mem {l : List Int} {s b : Nat} {x : Int} (h : 0 ≤ x ∧ x < (s : Int)) : x ∈ rotL l s b ↔ (x + s - b) % s ∈ l := by
  unfold rotL
  rw [rot_mem]
  constructor
  · rintro ⟨j, a, rfl, c⟩; exact c
  · intro c
    refine ⟨x.toNat, by omega, by omega, ?_⟩
    rw [show ((x.toNat : Nat) : Int) = x by omega]
    exact c
theorem rotL_rhy {l : List Int} {s b : Nat} (h : rhy l s) : rhy (rotL l s b) s := by
  refine ⟨h.1, rot_asc l s b s, fun x hx => ?_⟩
  obtain ⟨j, a, e, _⟩ := (rot_mem s).1 hx
  rw [e]; omega
/-- Around and back. -/
theorem spin_back {s b : Nat} {x : Int} (hs : 1 ≤ s) (hb : b < s) (h : 0 ≤ x ∧ x < (s : Int)) : ((x + b) % s + s - b) % s = x := by
  rw [show (x + b) % s + s - b = (x + b) % s + (s - b) by omega, Int.emod_add_emod, show x + (b : Int) + (s - b) = x + s by omega, Int.add_emod_right]
  exact Int.emod_eq_of_lt h.1 h.2
theorem spin_fwd {s b : Nat} {x : Int} (hs : 1 ≤ s) (hb : b < s) (h : 0 ≤ x ∧ x < (s : Int)) : ((x + s - b) % s + b) % s = x := by
  rw [Int.emod_add_emod, show x + (s : Int) - b + b = x + s by omega, Int.add_emod_right]
  exact Int.emod_eq_of_lt h.1 h.2
theorem md_rng {s : Nat} (x : Int) (hs : 1 ≤ s) : 0 ≤ x % (s : Int) ∧ x % (s : Int) < (s : Int) := ⟨Int.emod_nonneg _ (by omega), Int.emod_lt_of_pos _ (by omega)⟩
theorem rotL_in {l : List Int} {s b : Nat} (h : rhy l s) (hb : b < s) {x : Int} (hx : x ∈ l) : (x + b) % s ∈ rotL l s b := by
  rw [rotL_mem (md_rng _ h.1.1), spin_back h.1.1 hb (h.2.2 x hx)]
  exact hx
theorem rotL_len {l : List Int} {s b : Nat} (h : rhy l s) (hb : b < s) : (rotL l s b).length = l.length := by
  have hm := rotL_rhy (b := b) h
  have h1 := len_le (m := rotL l s b) (fun x => (x + b) % s) (rhy_nodup h) (fun x hx y hy e => by
    have e1 := spin_back h.1.1 hb (h.2.2 x hx)
    have e2 := spin_back h.1.1 hb (h.2.2 y hy)
    have e0 : (x + (b : Int)) % (s : Int) = (y + (b : Int)) % (s : Int) := e
    rw [e0] at e1
    exact e1.symm.trans e2) (fun x hx => rotL_in h hb hx)
  have h2 := len_le (l := rotL l s b) (m := l) (fun x => (x + s - b) % s) (rhy_nodup hm) (fun x hx y hy e => by
    have e1 := spin_fwd h.1.1 hb (hm.2.2 x hx)
    have e2 := spin_fwd h.1.1 hb (hm.2.2 y hy)
    have e0 : (x + (s : Int) - (b : Int)) % (s : Int) = (y + (s : Int) - (b : Int)) % (s : Int) := e
    rw [e0] at e1
    exact e1.symm.trans e2) (fun x hx => (rotL_mem (hm.2.2 x hx)).1 hx)
  omega
theorem mov_iff {a b : List Int} {n : Int} {s : Nat} (hl : a.length = b.length) : movB a b n s = true ↔ ∀ x ∈ a, (x + n) % s ∈ b := by
  unfold movB
  rw [decide_eq_true_iff]
  constructor
  · rintro ⟨_, h⟩ x hx
    obtain ⟨i, hi, e⟩ := List.getElem_of_mem hx
    have := h i hi
    unfold movAt at this
    rw [mem_iff, show gt a i = x by simp [gt, hi, e]] at this
    exact this
  · intro h
    refine ⟨hl, fun i hi => ?_⟩
    unfold movAt
    rw [mem_iff]
    refine h _ ?_
    rw [show gt a i = a[i] by simp [gt, hi]]
    exact List.getElem_mem hi
theorem same_fwd {l : List Int} {s b : Nat} (h : rhy l s) (hb : b < s) : sameR l (rotL l s b) s = true := by
  unfold sameR
  rw [rhy_ris h, rhy_ris (rotL_rhy h)]
  refine decide_eq_true ⟨b, by simpa using hb, ?_⟩
  have hss : (((s : Int).toNat : Nat) : Int) = (s : Int) := by omega
  rw [hss]
  exact (mov_iff (rotL_len h hb).symm).2 fun x hx => rotL_in h hb hx
theorem same_back {l : List Int} {s b : Nat} (h : rhy l s) (hb : b < s) : sameR (rotL l s b) l s = true := by
  unfold sameR
  rw [rhy_ris h, rhy_ris (rotL_rhy h)]
  have hss : (((s : Int).toNat : Nat) : Int) = (s : Int) := by omega
  refine decide_eq_true ⟨if b = 0 then 0 else s - b, by split <;> simp <;> omega, ?_⟩
  rw [hss]
  refine (mov_iff (rotL_len h hb)).2 fun x hx => ?_
  have hx2 := (rotL_mem ((rotL_rhy h).2.2 x hx)).1 hx
  by_cases b0 : b = 0
  · subst b0
    rw [if_pos rfl]
    have e : (x + (s : Int) - ((0 : Nat) : Int)) % s = (x + ((0 : Nat) : Int)) % s := by
      rw [show x + (s : Int) - ((0 : Nat) : Int) = x + ((0 : Nat) : Int) + s by omega, Int.add_emod_right]
    rw [← e]; exact hx2
  · rw [if_neg b0, show x + ((s - b : Nat) : Int) = x + s - b by omega]
    exact hx2
/-! ### the least period -/
theorem good_rot {l : List Int} {s b : Nat} (h : rhy l s) (hb : b < s) (n : Int) : perGood (rotL l s b) s n = perGood l s n := by
  unfold perGood
  congr 1
  have key : movB (rotL l s b) (rotL l s b) n s = true ↔ movB l l n s = true := by
    rw [mov_iff rfl, mov_iff rfl]
    have hm := rotL_rhy (b := b) h
    constructor
    · intro H x hx
      have h1 := H _ (rotL_in h hb hx)
      rw [rotL_mem (md_rng _ h.1.1)] at h1
      have e : (((x + b) % s + n) % s + s - b) % (s : Int) = (x + n) % s := by
        rw [Int.emod_add_emod, show (x + (b : Int) + n) % s + s - b = (x + (b : Int) + n) % s + (s - b) by omega, Int.emod_add_emod, show x + (b : Int) + n + (s - b) = x + n + s by omega, Int.add_emod_right]
      rwa [e] at h1
    · intro H x hx
      have h1 := H _ ((rotL_mem (hm.2.2 x hx)).1 hx)
      rw [rotL_mem (md_rng _ h.1.1)]
      have e : ((x + s - b) % s + n) % (s : Int) = ((x + n) % s + s - b) % s := by
        rw [Int.emod_add_emod, show (x + n) % (s : Int) + s - b = (x + n) % s + (s - b) by omega, Int.emod_add_emod, show x + n + ((s : Int) - b) = x + s - b + n by omega]
      rwa [e] at h1
  cases h1 : movB (rotL l s b) (rotL l s b) n s <;> cases h2 : movB l l n s
  · rfl
  · rw [key.2 h2] at h1; cases h1
  · rw [key.1 h1] at h2; cases h2
  · rfl
theorem per_rot {l : List Int} {s b : Nat} (h : rhy l s) (hb : b < s) : perZ (rotL l s b) s = perZ l s := by
  unfold perZ
  rw [rhy_ris h, rhy_ris (rotL_rhy h), if_pos rfl, if_pos rfl]
  unfold perTo
  simp only [good_rot h hb]
theorem least_good {l : List Int} {s : Int} : ∀ N : Nat, 1 ≤ N → perGood l s N = true → ∃ n : Nat, 1 ≤ n ∧ n ≤ N ∧ perGood l s n = true ∧ ∀ m : Nat, 1 ≤ m → m < n → perGood l s m = false := by
  intro N
  induction N using Nat.strongRecOn with
  | ind N ih =>
    intro h1 hg
    by_cases h : ∃ m : Nat, 1 ≤ m ∧ m < N ∧ perGood l s m = true
    · obtain ⟨m, a, b, c⟩ := h
      obtain ⟨n, x, y, z⟩ := ih m b a c
      exact ⟨n, x, by omega, z⟩
    · refine ⟨N, h1, Nat.le_refl _, hg, fun m a b => ?_⟩
      cases hm : perGood l s m
      · rfl
      · exact absurd ⟨m, a, b, hm⟩ h
theorem mov_iter {l : List Int} {p : Int} {s : Nat} (H : ∀ x ∈ l, (x + p) % s ∈ l) {x : Int} (hx : x ∈ l) (hr : 0 ≤ x ∧ x < (s : Int)) : ∀ t : Nat, (x + (t : Int) * p) % s ∈ l
  | 0 => by
    rw [show ((0 : Nat) : Int) * p = 0 by simp, Int.add_zero, Int.emod_eq_of_lt hr.1 hr.2]; exact hx
  | t + 1 => by
    have h1 := H _ (mov_iter H hx hr t)
    rw [Int.emod_add_emod] at h1
    have e : x + (t : Int) * p + p = x + ((t + 1 : Nat) : Int) * p := by
      rw [show ((t + 1 : Nat) : Int) = (t : Int) + 1 by omega, Int.add_mul]; omega
    rwa [e] at h1
def cnT (l : List Int) : Nat → Nat
  | 0 => 0
  | k + 1 => if ((k : Nat) : Int) ∈ l then cnT l k + 1 else cnT l k
theorem cn_in {l : List Int} {k : Nat} (h : ((k : Nat) : Int) ∈ l) : cnT l (k + 1) = cnT l k + 1 := if_pos h
theorem cn_out {l : List Int} {k : Nat} (h : ¬ ((k : Nat) : Int) ∈ l) : cnT l (k + 1) = cnT l k := if_neg h
theorem rot0_cn {l : List Int} {s : Nat} (hs : 1 ≤ s) : ∀ k, k ≤ s → (rotTo l s 0 k).length = cnT l k
  | 0, _ => rfl
  | k + 1, hk => by
    have ih := rot0_cn (l := l) hs k (by omega)
    have e : (((k : Nat) : Int) + s - ((0 : Nat) : Int)) % s = (k : Int) := by
      rw [show ((k : Nat) : Int) + s - ((0 : Nat) : Int) = (k : Int) + s by omega, Int.add_emod_right]
      exact Int.emod_eq_of_lt (by omega) (by omega)
    unfold cnT
    cases hh : hasI l (((k : Int) + s - ((0 : Nat) : Int)) % s)
    · rw [rot_no hh, ih, if_neg]
      intro hm
      rw [e, has_mem.2 hm] at hh; cases hh
    · rw [rot_yes hh, List.length_append, ih, if_pos]
      · rfl
      · rw [e] at hh; exact has_mem.1 hh
theorem cn_len {l : List Int} {s : Nat} (h : rhy l s) : cnT l s = l.length := by
  rw [← rot0_cn h.1.1 s (Nat.le_refl _)]
  exact rotL_len h h.1.1
theorem cn_step {l : List Int} {p q s : Nat} (hp : 1 ≤ p) (hs : s = p * q) (hr : ∀ x ∈ l, 0 ≤ x ∧ x < (s : Int)) (H : ∀ x ∈ l, (x + (p : Int)) % s ∈ l) (j : Nat) (hj : j < q) : ∀ i, i ≤ p → cnT l (p * j + i) = cnT l (p * j) + cnT l i
  | 0, _ => rfl
  | i + 1, hi => by
    have ih := cn_step hp hs hr H j hj i (by omega)
    have hb : p * j + i < s := by
      have : p * (j + 1) ≤ p * q := Nat.mul_le_mul_left p hj
      rw [Nat.mul_succ] at this; omega
    have e1 : (((p * j + i : Nat) : Int)) = (i : Int) + (j : Int) * p := by
      rw [Int.natCast_add, Int.natCast_mul, Int.mul_comm]; omega
    have key : (((p * j + i : Nat) : Int) ∈ l) ↔ ((i : Int) ∈ l) := by
      constructor
      · intro hm
        have h1 := mov_iter H hm (hr _ hm) (q - j)
        have e2 : ((p * j + i : Nat) : Int) + ((q - j : Nat) : Int) * p = (i : Int) + s := by
          have : p * j + i + (q - j) * p = i + s := by
            rw [hs, Nat.sub_mul, Nat.mul_comm p j, Nat.mul_comm p q]
            have : j * p ≤ q * p := Nat.mul_le_mul_right p (by omega)
            omega
          rw [← Int.natCast_mul, ← Int.natCast_add, this, Int.natCast_add]
        rw [e2, Int.add_emod_right, Int.emod_eq_of_lt (by omega) (by omega)] at h1
        exact h1
      · intro hm
        have h1 := mov_iter H hm (hr _ hm) j
        rw [← e1, Int.emod_eq_of_lt (by omega) (by omega)] at h1
        exact h1
    rw [show p * j + (i + 1) = (p * j + i) + 1 by omega]
    by_cases hm : (i : Int) ∈ l
    · rw [cn_in hm, cn_in (key.2 hm), ih]
      omega
    · rw [cn_out hm, cn_out (fun q => hm (key.1 q)), ih]
theorem cn_all {l : List Int} {p q s : Nat} (hp : 1 ≤ p) (hs : s = p * q) (hr : ∀ x ∈ l, 0 ≤ x ∧ x < (s : Int)) (H : ∀ x ∈ l, (x + (p : Int)) % s ∈ l) : ∀ j, j ≤ q → cnT l (p * j) = j * cnT l p
  | 0, _ => by rw [Nat.mul_zero, Nat.zero_mul]; rfl
  | j + 1, hj => by
    rw [Nat.mul_succ, cn_step hp hs hr H j (by omega) p (Nat.le_refl _), cn_all hp hs hr H j (by omega), Nat.succ_mul]
/-- All that the law asks of the least period. -/
theorem per_law {l : List Int} {s b : Nat} (h : rhy l s) (hb : b < s) : ∃ p : Nat, perZ l s = (p : Int) ∧ perZ (rotL l s b) s = (p : Int) ∧ 1 ≤ p ∧ p ≤ s ∧ (s : Int) % (p : Int) = 0 ∧ ((l.length : Int) * (p : Int)) % (s : Int) = 0 := by
  have hg := perGood_self (l := l) (s := (s : Int)) (by have := h.1.1; omega) (fun i hi => by
    have := h.2.2 l[i] (List.getElem_mem hi)
    rw [show gt l i = l[i] by simp [gt, hi]]; omega)
  obtain ⟨p, h1, h2, h3, h4⟩ := least_good s h.1.1 hg
  have hz : perZ l s = (p : Int) := by
    unfold perZ
    rw [rhy_ris h, if_pos rfl]
    exact perTo_eq h1 (by have := h.1.2; omega) h3 h4
  refine ⟨p, hz, by rw [per_rot h hb, hz], h1, h2, ?_, ?_⟩
  · unfold perGood at h3
    rw [Bool.and_eq_true] at h3
    exact of_decide_eq_true h3.1
  · unfold perGood at h3
    rw [Bool.and_eq_true] at h3
    have hd := of_decide_eq_true h3.1
    have H := (mov_iff rfl).1 h3.2
    have hdn : p ∣ s := Int.natCast_dvd_natCast.1 (Int.dvd_of_emod_eq_zero hd)
    obtain ⟨q, hq⟩ := hdn
    have hc := cn_all h1 hq h.2.2 H q (Nat.le_refl _)
    rw [← hq, cn_len h] at hc
    rw [hc, ← Int.natCast_mul]
    have e : q * cnT l p * p = s * cnT l p := by
      rw [hq, Nat.mul_comm p q, Nat.mul_assoc, Nat.mul_comm (cnT l p) p, ← Nat.mul_assoc]
    rw [e, Int.natCast_mul]
    exact Int.mul_emod_right _ _
/-! ### beats that are spread -/
theorem floor_gap (a s n : Nat) (hn : 1 ≤ n) : a / n + s / n ≤ (a + s) / n ∧ (a + s) / n ≤ a / n + (s + n - 1) / n := by
  constructor
  · rw [Nat.le_div_iff_mul_le (by omega), Nat.add_mul]
    have h1 := Nat.div_mul_le_self a n
    have h2 := Nat.div_mul_le_self s n
    omega
  · have h1 : a < (a / n + 1) * n := (Nat.div_lt_iff_lt_mul (by omega)).1 (Nat.lt_succ_self _)
    have h2 : s + n - 1 < ((s + n - 1) / n + 1) * n := (Nat.div_lt_iff_lt_mul (by omega)).1 (Nat.lt_succ_self _)
    have h3 : (a + s) / n < a / n + (s + n - 1) / n + 1 := by
      rw [Nat.div_lt_iff_lt_mul (by omega), Nat.add_mul, Nat.add_mul, Nat.one_mul]
      rw [Nat.add_mul, Nat.one_mul] at h1 h2
      omega
    omega
theorem sp_get {n s k : Nat} (h : k < n) : gt (spreadTo n s n) k = (((k * s) / n : Nat) : Int) := by
  unfold spreadTo
  simp [gt, h]
/-- The gap behind the k-th beat. -/
theorem sp_gap {n s k : Nat} (hn : 1 ≤ n) (hk : k < n) : ((s / n : Nat) : Int) ≤ (((k + 1) * s / n : Nat) : Int) - ((k * s / n : Nat) : Int) ∧ (((k + 1) * s / n : Nat) : Int) - ((k * s / n : Nat) : Int) ≤ (((s + n - 1) / n : Nat) : Int) := by
  have := floor_gap (k * s) s n hn
  rw [show k * s + s = (k + 1) * s from (Nat.succ_mul k s).symm] at this
  omega
theorem sp_last {n s : Nat} (hn : 1 ≤ n) : n * s / n = s := Nat.mul_div_cancel_left s (by omega)
/-! ### the gaps of a tune -/
theorem tm_leR {l : List (Int × Int)} (h : tuneB l = true) {i j : Nat} (hij : i ≤ j) (hj : j < l.length) : tm l i ≤ tm l j := by
  by_cases e : i = j
  · subst e; omega
  · obtain ⟨d, rfl⟩ : ∃ d, j = i + d + 1 := ⟨j - i - 1, by omega⟩
    have h1 := tune_lt h i d hj
    rw [ltN_iff] at h1
    unfold tm; omega
theorem on_in {l : List (Int × Int)} {x : Int} : ∀ k, x ∈ onZ l k → ∃ j, j < k ∧ x = tm l j
  | 0, h => by simp [onZ] at h
  | k + 1, h => by
    by_cases hc : k = 0 ∨ tm l (k - 1) ≠ tm l k
    · rw [onZ_yes hc, List.mem_append, List.mem_singleton] at h
      rcases h with h | h
      · obtain ⟨j, a, b⟩ := on_in k h; exact ⟨j, by omega, b⟩
      · exact ⟨k, by omega, h⟩
    · rw [onZ_no hc] at h
      obtain ⟨j, a, b⟩ := on_in k h; exact ⟨j, by omega, b⟩
theorem on_asc {l : List (Int × Int)} (h : tuneB l = true) : ∀ k, k ≤ l.length → (onZ l k).Pairwise (· < ·)
  | 0, _ => List.Pairwise.nil
  | k + 1, hk => by
    have ih := on_asc h k (by omega)
    by_cases hc : k = 0 ∨ tm l (k - 1) ≠ tm l k
    · rw [onZ_yes hc, List.pairwise_append]
      refine ⟨ih, by simp, fun x hx y hy => ?_⟩
      rw [List.mem_singleton] at hy
      subst hy
      obtain ⟨j, a, rfl⟩ := on_in k hx
      rcases hc with hc | hc
      · omega
      · have h1 := tm_leR h (show j ≤ k - 1 by omega) (by omega)
        have h2 := tm_leR h (show k - 1 ≤ k by omega) (by omega)
        omega
    · rw [onZ_no hc]; exact ih
theorem gt_left {a b : List Int} {i : Nat} (h : i < a.length) : gt (a ++ b) i = gt a i := by
  unfold gt
  rw [List.getD_eq_getElem?_getD, List.getD_eq_getElem?_getD, List.getElem?_append_left h]
theorem on_first (l : List (Int × Int)) : ∀ k, gt (onZ l (k + 1)) 0 = tm l 0 ∧ 1 ≤ (onZ l (k + 1)).length
  | 0 => by rw [onZ_yes (Or.inl rfl)]; simp [onZ, gt]
  | k + 1 => by
    obtain ⟨h1, h2⟩ := on_first l k
    by_cases hc : k + 1 = 0 ∨ tm l (k + 1 - 1) ≠ tm l (k + 1)
    · rw [onZ_yes hc]
      refine ⟨?_, by rw [List.length_append]; omega⟩
      rw [← h1]
      exact gt_left (by omega)
    · rw [onZ_no hc]; exact ⟨h1, h2⟩
/-- All that the law asks of a tune's gaps. -/
theorem gap_law {l : List (Int × Int)} (h : tuneB l = true) (hl : l.length ≤ 40) : (onB l).length ≤ 40 ∧ ((gpB l).length : Int) = (if 0 < ((onB l).length : Int) - 1 then ((onB l).length : Int) - 1 else 0) ∧ (l.length = 0 ↔ (onB l).length = 0) ∧
    (∀ k, k < (gpB l).length → 1 ≤ gt (gpB l) k ∧ gt (gpB l) k ≤ 1000 ∧ gt (gpB l) k = gt (onB l) (k + 1) - gt (onB l) k) ∧ (0 < l.length → gt (onB l) (gpB l).length - gt (onB l) 0 = tm l (l.length - 1) - tm l 0) ∧ lsB l = maxTo (gpB l) (gpB l).length := by
  have ho := onB_yes h
  have hlen := onB_len l
  have hg : (gpB l).length = (onB l).length - 1 := by unfold gpB; rw [gpZ_len]
  have hgp : ∀ K, K ≤ (onB l).length - 1 → ∀ k, k < K → gt (gpZ (onB l) K) k = gt (onB l) (k + 1) - gt (onB l) k := by
    intro K
    induction K with
    | zero => intro _ k hk; omega
    | succ K ih =>
      intro hK k hk
      unfold gpZ
      by_cases e : k = K
      · subst e
        have := gt_last (gpZ (onB l) k) (gt (onB l) (k + 1) - gt (onB l) k)
        rwa [gpZ_len] at this
      · rw [← ih (by omega) k (by omega)]
        have hkl : k < (gpZ (onB l) K).length := by rw [gpZ_len]; omega
        exact gt_left hkl
  refine ⟨by omega, ?_, ?_, ?_, ?_, lsB_yes h⟩
  · rw [hg]; split <;> omega
  · constructor
    · intro e; omega
    · intro e
      by_cases e0 : l.length = 0
      · exact e0
      · obtain ⟨m, hm⟩ : ∃ m, l.length = m + 1 := ⟨l.length - 1, by omega⟩
        have := (on_first l m).2
        rw [ho, hm] at e
        omega
  · intro k hk
    have e1 : gt (gpB l) k = gt (onB l) (k + 1) - gt (onB l) k := by
      unfold gpB
      exact hgp _ (Nat.le_refl _) k (by omega)
    have a := on_asc h l.length (Nat.le_refl _)
    rw [← ho, List.pairwise_iff_getElem] at a
    have hk1 : k + 1 < (onB l).length := by omega
    have a1 := a k (k + 1) (by omega) hk1 (by omega)
    have g1 : gt (onB l) k = (onB l)[k] := by simp [gt, show k < (onB l).length by omega]
    have g2 : gt (onB l) (k + 1) = (onB l)[k + 1] := by simp [gt, hk1]
    have r1 := onB_rng l (show k < (onB l).length by omega)
    have r2 := onB_rng l hk1
    rw [e1]
    refine ⟨by rw [g1, g2]; omega, by omega, rfl⟩
  · intro h0
    obtain ⟨m, hm⟩ : ∃ m, l.length = m + 1 := ⟨l.length - 1, by omega⟩
    obtain ⟨n, hn1, hn2⟩ := onZ_last l m
    have hf := (on_first l m).1
    rw [← hm, ← ho] at hn1 hn2 hf
    rw [hg, hn1, show n + 1 - 1 = n by omega, hn2, hf, show l.length - 1 = m by omega]
theorem max_rng {g : List Int} (h : ∀ k, k < g.length → 1 ≤ gt g k ∧ gt g k ≤ 1000) : ∀ k, k ≤ g.length → 0 ≤ maxTo g k ∧ maxTo g k ≤ 1000
  | 0, _ => by simp [maxTo]
  | k + 1, hk => by
    have h1 := max_rng h k (by omega)
    have h2 := h k (by omega)
    unfold maxTo; omega
end Go.Proofs.Ytkbceojeahninaa
