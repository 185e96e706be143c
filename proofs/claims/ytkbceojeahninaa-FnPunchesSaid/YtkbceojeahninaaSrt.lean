/- Notes in order, each once: plain lists. -/
import Derived.Test.YtkbceojeahninaaTune
namespace Go.Proofs.Ytkbceojeahninaa
open Go.ChangeShapes Go.WideShapes Go.ChangeAt Go.RowKit
set_option linter.unusedVariables false
def ltN (x y : Int × Int) : Bool := lessB x.1 x.2 y.1 y.2
theorem ltN_iff {x y : Int × Int} : ltN x y = true ↔ x.1 < y.1 ∨ (x.1 = y.1 ∧ x.2 < y.2) := by
  unfold ltN lessB; simp
theorem ltN_trans {x y z : Int × Int} (h1 : ltN x y = true) (h2 : ltN y z = true) : ltN x z = true := by
  rw [ltN_iff] at *; omega
theorem ltN_irr (x : Int × Int) : ltN x x = false := by
  rw [Bool.eq_false_iff, ne_eq, ltN_iff]; omega
theorem ltN_ne {x y : Int × Int} (h : ltN x y = true) : x ≠ y := by
  intro e; subst e; rw [ltN_irr] at h; cases h
theorem ltN_tot {x y : Int × Int} (h1 : ltN x y = false) (h2 : ltN y x = false) : x = y := by
  rw [Bool.eq_false_iff, ne_eq, ltN_iff] at h1 h2
  exact Prod.ext (by omega) (by omega)
theorem ltN_asym {x y : Int × Int} (h : ltN x y = true) : ltN y x = false := by
  rw [Bool.eq_false_iff, ne_eq, ltN_iff]; rw [ltN_iff] at h; omega
def isSrt (l S : List (Int × Int)) : Prop := S.Pairwise (fun x y => ltN x y = true) ∧ ∀ x, x ∈ S ↔ x ∈ l
theorem srt_uniq0 : ∀ (S T : List (Int × Int)), S.Pairwise (fun x y => ltN x y = true) → T.Pairwise (fun x y => ltN x y = true) → (∀ x, x ∈ S ↔ x ∈ T) → S = T
  | [], [], _, _, _ => rfl
  | [], b :: T, _, _, h => absurd ((h b).2 (List.mem_cons_self ..)) (by simp)
  | a :: S, [], _, _, h => absurd ((h a).1 (List.mem_cons_self ..)) (by simp)
  | a :: S, b :: T, hS, hT, h => by
    rw [List.pairwise_cons] at hS hT
    have hab : a = b := by
      rcases List.mem_cons.1 ((h a).1 (List.mem_cons_self ..)) with h1 | h1
      · exact h1
      · rcases List.mem_cons.1 ((h b).2 (List.mem_cons_self ..)) with h2 | h2
        · exact h2.symm
        · have h3 := hT.1 a h1
          have h4 := hS.1 b h2
          rw [ltN_asym h3] at h4; cases h4
    subst hab
    congr 1
    refine srt_uniq0 S T hS.2 hT.2 fun x => ?_
    constructor
    · intro hx
      rcases List.mem_cons.1 ((h x).1 (List.mem_cons_of_mem _ hx)) with h1 | h1
      · exact absurd h1.symm (ltN_ne (hS.1 x hx))
      · exact h1
    · intro hx
      rcases List.mem_cons.1 ((h x).2 (List.mem_cons_of_mem _ hx)) with h1 | h1
      · exact absurd h1.symm (ltN_ne (hT.1 x hx))
      · exact h1
theorem isSrt.uniq {l S T : List (Int × Int)} (h1 : isSrt l S) (h2 : isSrt l T) : S = T :=
  srt_uniq0 S T h1.1 h2.1 fun x => (h1.2 x).trans (h2.2 x).symm
/-- Put a note in at its place, if it is not there. -/
def insN (x : Int × Int) : List (Int × Int) → List (Int × Int)
  | [] => [x]
  | y :: S => if ltN y x = true then y :: insN x S else if y = x then y :: S else x :: y :: S
theorem insN_mem {x z : Int × Int} : ∀ S, z ∈ insN x S ↔ z = x ∨ z ∈ S
  | [] => by simp [insN]
  | y :: S => by
    unfold insN
    split
    · rw [List.mem_cons, insN_mem S, List.mem_cons]
      constructor
      · rintro (h | h | h)
        · exact Or.inr (Or.inl h)
        · exact Or.inl h
        · exact Or.inr (Or.inr h)
      · rintro (h | h | h)
        · exact Or.inr (Or.inl h)
        · exact Or.inl h
        · exact Or.inr (Or.inr h)
    · split
      · rename_i e; subst e
        rw [List.mem_cons]
        constructor
        · intro h; exact Or.inr h
        · rintro (h | h)
          · exact Or.inl h
          · exact h
      · rw [List.mem_cons]
theorem insN_asc {x : Int × Int} : ∀ S : List (Int × Int), S.Pairwise (fun x y => ltN x y = true) → (insN x S).Pairwise (fun x y => ltN x y = true)
  | [], _ => by unfold insN; exact List.pairwise_singleton _ _
  | y :: S, h => by
    rw [List.pairwise_cons] at h
    unfold insN
    split
    · rename_i hy
      rw [List.pairwise_cons]
      refine ⟨fun z hz => ?_, insN_asc S h.2⟩
      rcases (insN_mem S).1 hz with h1 | h1
      · rw [h1]; exact hy
      · exact h.1 z h1
    · rename_i hy
      split
      · rw [List.pairwise_cons]; exact h
      · rename_i hne
        have hxy : ltN x y = true := by
          cases hq : ltN x y
          · exact absurd (ltN_tot (Bool.eq_false_iff.2 hy) hq) hne
          · rfl
        rw [List.pairwise_cons]
        refine ⟨fun z hz => ?_, List.pairwise_cons.2 h⟩
        rcases List.mem_cons.1 hz with h1 | h1
        · rw [h1]; exact hxy
        · exact ltN_trans hxy (h.1 z h1)
def srtTo (l : List (Int × Int)) : Nat → List (Int × Int)
  | 0 => []
  | k + 1 => insN (tm l k, pt l k) (srtTo l k)
def srt (l : List (Int × Int)) : List (Int × Int) := srtTo l l.length
theorem srtTo_len (l : List (Int × Int)) : ∀ k, (srtTo l k).length ≤ k := by
  have hi : ∀ (x : Int × Int) (S : List (Int × Int)), (insN x S).length ≤ S.length + 1 := by
    intro x S
    induction S with
    | nil => simp [insN]
    | cons y S ih => unfold insN; split <;> (try split) <;> simp <;> omega
  intro k
  induction k with
  | zero => exact Nat.le_refl _
  | succ k ih => have := hi (tm l k, pt l k) (srtTo l k); unfold srtTo; omega
theorem note_get {l : List (Int × Int)} {k : Nat} (h : k < l.length) : (tm l k, pt l k) = l[k] := by simp [tm, pt, List.getD, h]
theorem srtTo_srt (l : List (Int × Int)) : ∀ k, k ≤ l.length → isSrt (l.take k) (srtTo l k)
  | 0, _ => ⟨List.Pairwise.nil, fun x => by simp [srtTo]⟩
  | k + 1, h => by
    have ih := srtTo_srt l k (by omega)
    refine ⟨insN_asc _ ih.1, fun x => ?_⟩
    unfold srtTo
    rw [insN_mem, ih.2, List.take_succ_eq_append_getElem (by omega), List.mem_append, List.mem_singleton, note_get (by omega)]
    exact Or.comm
theorem srt_srt (l : List (Int × Int)) : isSrt l (srt l) := by
  have := srtTo_srt l l.length (Nat.le_refl _)
  rwa [List.take_length] at this
/-- What is put in, by the place. -/
theorem insN_at {x : Int × Int} : ∀ (S : List (Int × Int)) (a : Nat), a ≤ S.length → (∀ j, j < a → ltN (S.getD j (0, 0)) x = true) → (a = S.length ∨ ltN (S.getD a (0, 0)) x = false) →
    insN x S = if a = S.length ∨ S.getD a (0, 0) ≠ x then S.take a ++ [x] ++ S.drop a else S
  | [], a, ha, _, _ => by
    obtain rfl : a = 0 := by simpa using ha
    simp [insN]
  | y :: S, 0, _, _, h => by
    rcases h with h | h
    · simp at h
    · have hy : ltN y x = false := by simpa [List.getD] using h
      unfold insN
      rw [if_neg (by rw [hy]; simp)]
      by_cases e : y = x
      · rw [if_pos e, if_neg (by simp [e])]
      · rw [if_neg e, if_pos (Or.inr (by simpa using e))]
        simp
  | y :: S, a + 1, ha, hj, h => by
    have hy : ltN y x = true := by simpa [List.getD] using hj 0 (by omega)
    unfold insN
    rw [if_pos hy, insN_at S a (by simpa using ha) (fun j hj' => by simpa [List.getD] using hj (j + 1) (by omega)) (by simpa [List.getD] using h)]
    have e1 : (a + 1 = (y :: S).length ∨ (y :: S).getD (a + 1) (0, 0) ≠ x) ↔ (a = S.length ∨ S.getD a (0, 0) ≠ x) := by simp [List.getD]
    by_cases hc : a = S.length ∨ S.getD a (0, 0) ≠ x
    · rw [if_pos hc, if_pos (e1.2 hc)]; simp
    · rw [if_neg hc, if_neg (fun q => hc (e1.1 q))]
/-- A list with neighbours that are the same struck. -/
def cpZ (D : List (Int × Int)) : Nat → List (Int × Int)
  | 0 => []
  | k + 1 => if k = 0 ∨ D.getD k (0, 0) ≠ D.getD (k - 1) (0, 0) then cpZ D k ++ [D.getD k (0, 0)] else cpZ D k
theorem cpZ_len (D : List (Int × Int)) : ∀ k, (cpZ D k).length ≤ k
  | 0 => Nat.le_refl _
  | k + 1 => by have := cpZ_len D k; unfold cpZ; split <;> simp <;> omega
theorem cpZ_yes {D : List (Int × Int)} {k : Nat} (h : k = 0 ∨ D.getD k (0, 0) ≠ D.getD (k - 1) (0, 0)) : cpZ D (k + 1) = cpZ D k ++ [D.getD k (0, 0)] := if_pos h
theorem cpZ_no {D : List (Int × Int)} {k : Nat} (h0 : k ≠ 0) (h : D.getD k (0, 0) = D.getD (k - 1) (0, 0)) : cpZ D (k + 1) = cpZ D k := if_neg (by rintro (q | q); exact h0 q; exact q h)
/-- The last one that is kept is the last one read. -/
theorem cpZ_srt {D : List (Int × Int)} (hs : ∀ i j, i < j → j < D.length → ltN (D.getD j (0, 0)) (D.getD i (0, 0)) = false) : ∀ k, k ≤ D.length → isSrt (D.take k) (cpZ D k)
  | 0, _ => ⟨List.Pairwise.nil, fun x => by simp [cpZ]⟩
  | k + 1, h => by
    have ih := cpZ_srt hs k (by omega)
    have hk : D.getD k (0, 0) = D[k] := by simp [List.getD, show k < D.length by omega]
    rw [List.take_succ_eq_append_getElem (by omega), ← hk]
    by_cases hc : k = 0 ∨ D.getD k (0, 0) ≠ D.getD (k - 1) (0, 0)
    · rw [cpZ_yes hc]
      refine ⟨List.pairwise_append.2 ⟨ih.1, List.pairwise_singleton _ _, fun x hx y hy => ?_⟩, fun x => ?_⟩
      · rw [List.mem_singleton] at hy
        subst hy
        obtain ⟨i, hi, rfl⟩ := List.getElem_of_mem ((ih.2 x).1 hx)
        have hik : i < k := by simp at hi; omega
        have hil : i < D.length := by omega
        have hgi : (D.take k)[i] = D.getD i (0, 0) := by simp [List.getD, hil]
        rw [hgi]
        rcases hc with hc | hc
        · omega
        · cases hq : ltN (D.getD i (0, 0)) (D.getD k (0, 0))
          · have h1 := hs i k hik (by omega)
            have e1 := ltN_tot hq h1
            by_cases e : i = k - 1
            · subst e; exact absurd e1.symm hc
            · have h2 := hs i (k - 1) (by omega) (by omega)
              have h3 := hs (k - 1) k (by omega) (by omega)
              rw [← e1] at h3
              exact absurd (e1.symm.trans (ltN_tot h3 h2)) hc
          · rfl
      · rw [List.mem_append, ih.2, List.mem_append]
    · rw [cpZ_no (fun e => hc (Or.inl e)) (by
        by_cases e : D.getD k (0, 0) = D.getD (k - 1) (0, 0)
        · exact e
        · exact absurd (Or.inr e) hc)]
      refine ⟨ih.1, fun x => ?_⟩
      rw [ih.2, List.mem_append, List.mem_singleton]
      constructor
      · intro h1; exact Or.inl h1
      · rintro (h1 | h1)
        · exact h1
        · have e : D.getD k (0, 0) = D.getD (k - 1) (0, 0) := by
            by_cases e : D.getD k (0, 0) = D.getD (k - 1) (0, 0)
            · exact e
            · exact absurd (Or.inr e) hc
          have hk0 : k ≠ 0 := fun e => hc (Or.inl e)
          rw [h1, e]
          have hg : D.getD (k - 1) (0, 0) = D[k - 1]'(by omega) := by simp [List.getD, show k - 1 < D.length by omega]
          rw [hg]
          exact List.mem_take_iff_getElem.2 ⟨k - 1, by omega, rfl⟩
theorem isSrt.perm {l D S : List (Int × Int)} (h : isSrt D S) (hp : ∀ x, x ∈ D ↔ x ∈ l) : isSrt l S := ⟨h.1, fun x => (h.2 x).trans (hp x)⟩
end Go.Proofs.Ytkbceojeahninaa
