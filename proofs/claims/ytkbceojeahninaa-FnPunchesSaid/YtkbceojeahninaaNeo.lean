/- The nearest order: plain part; whether a list holds a number. -/
import Derived.Test.YtkbceojeahninaaWay
namespace Go.Proofs.Ytkbceojeahninaa
open Go.ChangeShapes Go.WideShapes Go.ChangeAt Go.RowKit
set_option linter.unusedVariables false
theorem gt_mem {l : List Int} {n : Int} : n ∈ l ↔ ∃ i, i < l.length ∧ gt l i = n := by
  constructor
  · intro h
    obtain ⟨i, hi, h⟩ := List.getElem_of_mem h
    exact ⟨i, hi, by simp [gt, hi, h]⟩
  · rintro ⟨i, hi, h⟩
    have : gt l i = l[i] := by simp [gt, hi]
    rw [← h, this]; exact List.getElem_mem hi
def hasL (l : List Int) (n : Int) : Bool := decide (n ∈ l)
theorem has_yes {l : List Int} {n : Int} {i : Nat} (hi : i < l.length) (h : gt l i = n) : hasL l n = true := decide_eq_true (gt_mem.2 ⟨i, hi, h⟩)
theorem has_no {l : List Int} {n : Int} (h : ∀ i, i < l.length → gt l i ≠ n) : hasL l n = false := decide_eq_false fun hm => by obtain ⟨i, hi, he⟩ := gt_mem.1 hm; exact h i hi he
theorem has_iff {l : List Int} {n : Int} : hasL l n = true ↔ n ∈ l := by unfold hasL; rw [decide_eq_true_iff]
theorem sub_len : ∀ (A B : List Int), A.Nodup → (∀ x ∈ A, x ∈ B) → A.length ≤ B.length
  | [], B, _, _ => by simp
  | a :: A, B, hn, hs => by
    have ha := hs a (by simp)
    rw [List.nodup_cons] at hn
    have h1 := sub_len A (B.erase a) hn.2 (fun x hx => (List.mem_erase_of_ne (fun e => hn.1 (by rw [← e]; exact hx))).2 (hs x (by simp [hx])))
    have h2 := List.length_erase_of_mem ha
    have h3 : 0 < B.length := List.length_pos_of_mem ha
    simp only [List.length_cons]
    omega
/-- The cost to go on to x. -/
def cstZ (s : Int) (P : List (Int × Int)) (D : List Int) (x : Nat) : Int := if D.length = 0 then 0 else mvZ s P (gt D (D.length - 1)).toNat x
theorem cst_bd (s : Int) (P : List (Int × Int)) (D : List Int) (x : Nat) : -1 ≤ cstZ s P D x ∧ cstZ s P D x ≤ 1100 := by
  unfold cstZ; split
  · omega
  · exact mvZ_bd _ _ _ _
def nbTo (s : Int) (P : List (Int × Int)) (D : List Int) : Nat → Int × Int
  | 0 => (-1, 0)
  | k + 1 => if hasL D (k : Int) = true then nbTo s P D k else if (nbTo s P D k).1 < 0 ∨ cstZ s P D k < (nbTo s P D k).2 then ((k : Int), cstZ s P D k) else nbTo s P D k
def nbB (s : Int) (P : List (Int × Int)) (D : List Int) (k : Nat) : Int := (nbTo s P D k).1
def nbL (s : Int) (P : List (Int × Int)) (D : List Int) (k : Nat) : Int := (nbTo s P D k).2
theorem nb_zero (s : Int) (P : List (Int × Int)) (D : List Int) : nbB s P D 0 = -1 ∧ nbL s P D 0 = 0 := ⟨rfl, rfl⟩
theorem nb_has {s : Int} {P : List (Int × Int)} {D : List Int} {k : Nat} (h : hasL D (k : Int) = true) : nbB s P D (k + 1) = nbB s P D k ∧ nbL s P D (k + 1) = nbL s P D k := by
  have e : nbTo s P D (k + 1) = nbTo s P D k := by rw [nbTo, if_pos h]
  exact ⟨by unfold nbB; rw [e], by unfold nbL; rw [e]⟩
theorem nb_yes {s : Int} {P : List (Int × Int)} {D : List Int} {k : Nat} (h : hasL D (k : Int) = false) (h2 : nbB s P D k < 0 ∨ cstZ s P D k < nbL s P D k) : nbB s P D (k + 1) = (k : Int) ∧ nbL s P D (k + 1) = cstZ s P D k := by
  have e : nbTo s P D (k + 1) = ((k : Int), cstZ s P D k) := by rw [nbTo, if_neg (by rw [h]; simp)]; exact if_pos h2
  exact ⟨by unfold nbB; rw [e], by unfold nbL; rw [e]⟩
theorem nb_no {s : Int} {P : List (Int × Int)} {D : List Int} {k : Nat} (h : hasL D (k : Int) = false) (h2 : ¬ (nbB s P D k < 0 ∨ cstZ s P D k < nbL s P D k)) : nbB s P D (k + 1) = nbB s P D k ∧ nbL s P D (k + 1) = nbL s P D k := by
  have e : nbTo s P D (k + 1) = nbTo s P D k := by rw [nbTo, if_neg (by rw [h]; simp)]; exact if_neg h2
  exact ⟨by unfold nbB; rw [e], by unfold nbL; rw [e]⟩
theorem nb_inv (s : Int) (P : List (Int × Int)) (D : List Int) : ∀ k : Nat, (-1 ≤ nbB s P D k ∧ nbB s P D k < (k : Int)) ∧ (0 ≤ nbB s P D k → hasL D (nbB s P D k) = false ∧ nbL s P D k = cstZ s P D (nbB s P D k).toNat) ∧ (nbB s P D k < 0 → ∀ i : Nat, i < k → hasL D (i : Int) = true) ∧ (-1 ≤ nbL s P D k ∧ nbL s P D k ≤ 1100)
  | 0 => by rw [(nb_zero s P D).1, (nb_zero s P D).2]; exact ⟨by omega, fun h => by omega, fun _ i h => by omega, by omega⟩
  | k + 1 => by
    obtain ⟨h1, h2, h3, h4⟩ := nb_inv s P D k
    have hc := cst_bd s P D k
    cases hh : hasL D (k : Int)
    · by_cases hy : nbB s P D k < 0 ∨ cstZ s P D k < nbL s P D k
      · rw [(nb_yes hh hy).1, (nb_yes hh hy).2]
        exact ⟨by omega, fun _ => ⟨hh, rfl⟩, fun h => by omega, hc⟩
      · rw [(nb_no hh hy).1, (nb_no hh hy).2]
        exact ⟨by omega, h2, fun h => absurd (Or.inl h) hy, h4⟩
    · rw [(nb_has hh).1, (nb_has hh).2]
      refine ⟨by omega, h2, fun h i hi => ?_, h4⟩
      by_cases e : i = k
      · subst e; exact hh
      · exact h3 h i (by omega)
/-- The order, as far as it has gone. -/
def neaTo (s : Int) (P : List (Int × Int)) : Nat → List Int
  | 0 => []
  | j + 1 => neaTo s P j ++ [nbB s P (neaTo s P j) P.length]
theorem nea_len (s : Int) (P : List (Int × Int)) : ∀ j, (neaTo s P j).length = j
  | 0 => rfl
  | j + 1 => by rw [neaTo, List.length_append, nea_len s P j]; rfl
theorem nea_succ (s : Int) (P : List (Int × Int)) (j : Nat) : neaTo s P (j + 1) = neaTo s P j ++ [nbB s P (neaTo s P j) P.length] := rfl
theorem rng_nodup (n : Nat) : ((List.range n).map fun (k : Nat) => (k : Int)).Nodup := by
  rw [List.nodup_iff_pairwise_ne, List.pairwise_map]
  have := List.nodup_range (n := n)
  rw [List.nodup_iff_pairwise_ne] at this
  exact this.imp fun h e => h (by omega)
theorem nb_pos {s : Int} {P : List (Int × Int)} {D : List Int} (h : D.length < P.length) : 0 ≤ nbB s P D P.length := by
  obtain ⟨h1, h2, h3, h4⟩ := nb_inv s P D P.length
  refine Classical.byContradiction fun hn => ?_
  have h5 := h3 (by omega)
  have h6 := sub_len ((List.range P.length).map fun (k : Nat) => (k : Int)) D (rng_nodup _) (fun x hx => by
    rw [List.mem_map] at hx
    obtain ⟨k, hk, rfl⟩ := hx
    exact has_iff.1 (h5 k (List.mem_range.1 hk)))
  rw [List.length_map, List.length_range] at h6
  omega
/-- Distinct numbers below n. -/
def okD (n : Nat) (D : List Int) : Prop := D.Nodup ∧ ∀ x ∈ D, 0 ≤ x ∧ x < (n : Int)
theorem nea_ok (s : Int) (P : List (Int × Int)) : ∀ j, j ≤ P.length → okD P.length (neaTo s P j)
  | 0, _ => ⟨List.nodup_nil, fun x hx => by cases hx⟩
  | j + 1, h => by
    obtain ⟨h1, h2⟩ := nea_ok s P j (by omega)
    have hp := nb_pos (s := s) (P := P) (D := neaTo s P j) (by rw [nea_len]; omega)
    obtain ⟨i1, i2, _, _⟩ := nb_inv s P (neaTo s P j) P.length
    have hn := (i2 hp).1
    have hn' : ¬ nbB s P (neaTo s P j) P.length ∈ neaTo s P j := fun hm => by rw [has_iff.2 hm] at hn; cases hn
    rw [nea_succ]
    constructor
    · rw [List.nodup_append]
      exact ⟨h1, by simp, fun x hx y hy e => by rw [List.mem_singleton] at hy; subst hy; subst e; exact hn' hx⟩
    · intro x hx
      rcases List.mem_append.1 hx with hx | hx
      · exact h2 x hx
      · rw [List.mem_singleton] at hx; subst hx; exact ⟨hp, i1.2⟩
theorem nb_neg {s : Int} {P : List (Int × Int)} {D : List Int} (hD : okD P.length D) (h : ¬ D.length < P.length) : nbB s P D P.length < 0 := by
  obtain ⟨h1, h2, h3, h4⟩ := nb_inv s P D P.length
  refine Classical.byContradiction fun hn => ?_
  have h5 := (h2 (by omega)).1
  have h6 := sub_len (nbB s P D P.length :: D) ((List.range P.length).map fun (k : Nat) => (k : Int)) (by
    rw [List.nodup_cons]
    exact ⟨(fun hm => by rw [has_iff.2 hm] at h5; cases h5), hD.1⟩) (fun x hx => by
    rw [List.mem_map]
    rcases List.mem_cons.1 hx with hx | hx
    · subst hx; exact ⟨(nbB s P D P.length).toNat, List.mem_range.2 (by omega), by omega⟩
    · have := hD.2 x hx; exact ⟨x.toNat, List.mem_range.2 (by omega), by omega⟩)
  rw [List.length_map, List.length_range, List.length_cons] at h6
  omega
theorem nb_first {s : Int} {P : List (Int × Int)} : ∀ k : Nat, nbB s P [] (k + 1) = 0 ∧ nbL s P [] (k + 1) = 0
  | 0 => by
    have h := nb_yes (s := s) (P := P) (D := []) (k := 0) rfl (Or.inl (by rw [(nb_zero s P []).1]; omega))
    exact ⟨h.1, by rw [h.2]; rfl⟩
  | k + 1 => by
    obtain ⟨h1, h2⟩ := nb_first (s := s) (P := P) k
    have h := nb_no (s := s) (P := P) (D := []) (k := k + 1) rfl (by rw [h1, h2, show cstZ s P [] (k + 1) = 0 from rfl]; omega)
    rw [h.1, h.2]; exact ⟨h1, h2⟩
theorem gt_snoc_lt {D : List Int} {x : Int} {i : Nat} (h : i < D.length) : gt (D ++ [x]) i = gt D i := by
  unfold gt; simp [List.getD, List.getElem?_append_left h]
theorem gt_snoc_last (D : List Int) (x : Int) : gt (D ++ [x]) D.length = x := by simp [gt]
noncomputable def neaZ (s t : Int) (P : List (Int × Int)) : List Int := if cylB s t P = true then neaTo s P P.length else []
theorem neaZ_yes {s t : Int} {P : List (Int × Int)} (h : cylB s t P = true) : neaZ s t P = neaTo s P P.length := if_pos h
theorem neaZ_no {s t : Int} {P : List (Int × Int)} (h : cylB s t P = false) : neaZ s t P = [] := by unfold neaZ; rw [h]; rfl
theorem neaZ_len (s t : Int) (P : List (Int × Int)) : (neaZ s t P).length ≤ 100 := by
  cases h : cylB s t P
  · rw [neaZ_no h]; simp
  · rw [neaZ_yes h, nea_len]; exact cyl_len h
set_option maxHeartbeats 800000 in
theorem holdsL_any (A : Option Addr) (c : Nat) (l : List Int) (n : Int) (w : World) (hrd : RdI w A l) (hl : l.length ≤ 1000000000) :
    Calls Try.prog 75 #[.slice A l.length c, .int .i64 n] w fun e w' => e = .returned (.bool (hasL l n)) ∧ w = w' := by
  go_enter Try.func75, Try.ntmps75
  go_wp2
  go_loop [9] (fun q => ∃ k : Nat, k ≤ l.length ∧ q = .int .i64 k ∧ ∀ i, i < k → gt l i ≠ n) (fun q => l.length - (intOf q).toNat)
  case atStart => exact ⟨0, by omega, rfl, fun _ h => by omega⟩
  case round =>
    obtain ⟨k, hk, rfl, hM⟩ := hrel
    have HM := Lib.hid hM
    clear hM
    by_cases hlt : k < l.length
    · obtain ⟨b1, o1, rfl, _, hc1⟩ := hrd (by omega)
      have h1 := hc1 k hlt
      by_cases he : gt l k = n
      · have HA : Hid (hasL l n = true) := has_yes hlt he
        have hq : (gt l k == n) = true := by simpa using he
        clear hc1 hrd he
        go_wp2
        go_ret
        exact ⟨ret_bool HA.out.symm, rfl⟩
      · have HA := Lib.hid (show ∀ i, i < k + 1 → gt l i ≠ n from fun i hi => by
          by_cases e : i = k
          · subst e; exact he
          · exact HM.out i (by omega))
        have hq : (gt l k == n) = false := by simpa using he
        clear hc1 hrd he
        go_wp2
        go_round
        case rel => exact ⟨k + 1, by omega, by go_num, HA.out⟩
        case measure => simp [intOf]; omega
    · clear hrd
      go_wp2
      go_ret
      obtain rfl : k = l.length := by omega
      exact ⟨ret_bool (has_no HM.out).symm, rfl⟩
end Go.Proofs.Ytkbceojeahninaa
