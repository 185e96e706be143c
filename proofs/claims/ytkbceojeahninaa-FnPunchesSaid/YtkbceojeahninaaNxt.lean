/- Plain laws: the next order; all orders in turn; the first of the least. No program here. -/
import Derived.Test.YtkbceojeahninaaNeo
import Derived.Test.YtkbceojeahninaaSwap
namespace Go.Proofs.Ytkbceojeahninaa
set_option linter.unusedVariables false
/-- The least greater one comes to the head: r is the rest, backward. -/
def stp (x : Int) (r : List Int) : Option (List Int) :=
  match r.dropWhile (fun z => decide (z ≤ x)) with
  | [] => none
  | y :: B => some (y :: (r.takeWhile (fun z => decide (z ≤ x)) ++ x :: B))
def nxt : List Int → Option (List Int)
  | [] => none
  | x :: q => match nxt q with
    | some q' => some (x :: q')
    | none => stp x q.reverse
theorem nxt_nil : nxt [] = none := rfl
theorem nxt_some {x : Int} {q q' : List Int} (h : nxt q = some q') : nxt (x :: q) = some (x :: q') := by rw [nxt, h]
theorem nxt_none {x : Int} {q : List Int} (h : nxt q = none) : nxt (x :: q) = stp x q.reverse := by rw [nxt, h]
theorem dw_nil {x : Int} : ∀ {r : List Int}, (∀ z ∈ r, z ≤ x) → r.dropWhile (fun z => decide (z ≤ x)) = []
  | [], _ => rfl
  | z :: r, h => by
    rw [List.dropWhile_cons, if_pos (decide_eq_true (h z (by simp)))]
    exact dw_nil fun y hy => h y (by simp [hy])
theorem stp_no {x : Int} {r : List Int} (h : ∀ z ∈ r, z ≤ x) : stp x r = none := by
  have : r.dropWhile (fun z => decide (z ≤ x)) = [] := dw_nil h
  unfold stp; rw [this]
theorem stp_yes {x y : Int} {A B : List Int} (h : ∀ z ∈ A, z ≤ x) (hy : x < y) : stp x (A ++ y :: B) = some (y :: (A ++ x :: B)) := by
  have h1 : (A ++ y :: B).dropWhile (fun z => decide (z ≤ x)) = y :: B := by
    rw [List.dropWhile_append_of_pos (fun z hz => decide_eq_true (h z hz))]
    rw [List.dropWhile_cons, if_neg (by simp; omega)]
  have h2 : (A ++ y :: B).takeWhile (fun z => decide (z ≤ x)) = A := by
    rw [List.takeWhile_append_of_pos (fun z hz => decide_eq_true (h z hz))]
    rw [List.takeWhile_cons, if_neg (by simp; omega), List.append_nil]
  unfold stp; rw [h1, h2]
theorem nxt_desc : ∀ {q : List Int}, q.Pairwise (fun a b => b < a) → nxt q = none
  | [], _ => rfl
  | z :: q, h => by
    rw [List.pairwise_cons] at h
    rw [nxt_none (nxt_desc h.2)]
    exact stp_no fun y hy => by rw [List.mem_reverse] at hy; have := h.1 y hy; omega
theorem nxt_app {p p' : List Int} (h : nxt p = some p') : ∀ a : List Int, nxt (a ++ p) = some (a ++ p')
  | [] => h
  | x :: a => nxt_some (nxt_app h a)
/-- The next order, as the program makes it. -/
theorem nxt_at {a u v : List Int} {x y : Int} (hd : (u ++ y :: v).Pairwise (fun a b => b < a)) (hv : ∀ z ∈ v, z < x) (hy : x < y) : nxt (a ++ x :: (u ++ y :: v)) = some (a ++ y :: (u ++ x :: v).reverse) := by
  refine nxt_app ?_ a
  rw [nxt_none (nxt_desc hd)]
  have e : (u ++ y :: v).reverse = v.reverse ++ y :: u.reverse := by simp
  have e2 : (u ++ x :: v).reverse = v.reverse ++ x :: u.reverse := by simp
  rw [e, e2]
  exact stp_yes (fun z hz => by rw [List.mem_reverse] at hz; have := hv z hz; omega) hy
/-! ### All orders of a list, in turn -/
def PM : Nat → List Int → List (List Int)
  | 0, _ => [[]]
  | m + 1, S => S.flatMap fun x => (PM m (S.erase x)).map (x :: ·)
/-- Each is next to the one before, and behind the last comes o. -/
def sg : List (List Int) → Option (List Int) → Prop
  | [], _ => False
  | [p], o => nxt p = o
  | p :: q :: r, o => nxt p = some q ∧ sg (q :: r) o
theorem sg_ne {L : List (List Int)} {o : Option (List Int)} (h : sg L o) : L ≠ [] := by rintro rfl; exact h
theorem sg_app : ∀ {L : List (List Int)} {p : List Int} {M : List (List Int)} {o : Option (List Int)}, sg L (some p) → sg (p :: M) o → sg (L ++ p :: M) o
  | [], _, _, _, h, _ => absurd h id
  | [q], p, M, o, h, h2 => ⟨h, h2⟩
  | q :: q2 :: r, p, M, o, h, h2 => ⟨h.1, sg_app (L := q2 :: r) h.2 h2⟩
theorem sg_map {x : Int} : ∀ {L : List (List Int)} {z : List Int}, sg L none → L.getLast? = some z → sg (L.map (x :: ·)) (stp x z.reverse)
  | [], _, h, _ => absurd h id
  | [p], z, h, hl => by
    simp at hl; subst hl
    exact nxt_none h
  | p :: q :: r, z, h, hl => by
    refine ⟨nxt_some h.1, ?_⟩
    exact sg_map (L := q :: r) h.2 (by rw [List.getLast?_cons_cons] at hl; exact hl)
theorem asc_erase {S : List Int} (h : S.Pairwise (· < ·)) (x : Int) : (S.erase x).Pairwise (· < ·) := h.sublist List.erase_sublist
theorem mid_erase {A B : List Int} {x : Int} (h : (A ++ x :: B).Pairwise (· < ·)) : (A ++ x :: B).erase x = A ++ B := by
  have hx : x ∉ A := fun hm => by
    rw [List.pairwise_append] at h
    have := h.2.2 x hm x (by simp)
    omega
  rw [List.erase_append_right _ hx, List.erase_cons_head]
def PMok (m : Nat) (S : List Int) : Prop := sg (PM m S) none ∧ (PM m S).head? = some S ∧ (PM m S).getLast? = some S.reverse
theorem head_cons {L : List (List Int)} {s : List Int} (h : L.head? = some s) : ∃ M, L = s :: M := by
  cases L with
  | nil => cases h
  | cons p M => simp at h; subst h; exact ⟨M, rfl⟩
theorem PM_blocks (m : Nat) (ih : ∀ S : List Int, S.Pairwise (· < ·) → S.length = m → PMok m S) (S : List Int) (hS : S.Pairwise (· < ·)) (hl : S.length = m + 1) :
    ∀ (B A : List Int) (x : Int), S = A ++ x :: B → sg ((x :: B).flatMap fun x => (PM m (S.erase x)).map (x :: ·)) none ∧ ((x :: B).flatMap fun x => (PM m (S.erase x)).map (x :: ·)).head? = some (x :: S.erase x) ∧ ((x :: B).flatMap fun x => (PM m (S.erase x)).map (x :: ·)).getLast? = some (S.reverse)
  | [], A, x, hA => by
    subst hA
    have he := mid_erase hS
    have hle : ((A ++ [x]).erase x).length = m := by rw [he]; simp at hl ⊢; omega
    obtain ⟨h1, h2, h3⟩ := ih _ (asc_erase hS x) hle
    have e : ([x].flatMap fun x_1 => (PM m ((A ++ [x]).erase x_1)).map (x_1 :: ·)) = (PM m ((A ++ [x]).erase x)).map (x :: ·) := by simp
    rw [e]
    refine ⟨?_, ?_, ?_⟩
    · have h4 := sg_map (x := x) h1 h3
      have h5 : stp x ((A ++ [x]).erase x) = none := by
        rw [he]
        refine stp_no fun z hz => ?_
        rw [List.pairwise_append] at hS
        have := hS.2.2 z (by simpa using hz) x (by simp)
        omega
      rw [List.reverse_reverse, h5] at h4
      exact h4
    · rw [List.head?_map, h2]; rfl
    · rw [List.getLast?_map, h3, he]; simp
  | y :: B, A, x, hA => by
    subst hA
    have he := mid_erase hS
    have hle : ((A ++ x :: y :: B).erase x).length = m := by rw [he]; simp at hl ⊢; omega
    obtain ⟨h1, h2, h3⟩ := ih _ (asc_erase hS x) hle
    obtain ⟨b1, b2, b3⟩ := PM_blocks m ih (A ++ x :: y :: B) hS hl B (A ++ [x]) y (by simp)
    have hey : (A ++ x :: y :: B).erase y = A ++ x :: B := by
      have := mid_erase (A := A ++ [x]) (B := B) (x := y) (by simpa using hS)
      simpa using this
    have e : ((x :: y :: B).flatMap fun x_1 => (PM m ((A ++ x :: y :: B).erase x_1)).map (x_1 :: ·)) = (PM m ((A ++ x :: y :: B).erase x)).map (x :: ·) ++ ((y :: B).flatMap fun x_1 => (PM m ((A ++ x :: y :: B).erase x_1)).map (x_1 :: ·)) := by rw [List.flatMap_cons]
    rw [e]
    obtain ⟨M, hM⟩ := head_cons b2
    refine ⟨?_, ?_, ?_⟩
    · have h4 := sg_map (x := x) h1 h3
      have hxy : x < y := by
        rw [List.pairwise_append] at hS
        have := hS.2.1
        rw [List.pairwise_cons] at this
        exact this.1 y (by simp)
      have h5 : stp x ((A ++ x :: y :: B).erase x) = some (y :: (A ++ x :: y :: B).erase y) := by
        rw [he, hey]
        refine stp_yes (fun z hz => ?_) hxy
        rw [List.pairwise_append] at hS
        have := hS.2.2 z hz x (by simp)
        omega
      rw [List.reverse_reverse, h5] at h4
      rw [hM] at b1 ⊢
      exact sg_app h4 b1
    · rw [List.head?_append, List.head?_map, h2]; rfl
    · rw [List.getLast?_append, b3]; rfl
theorem PM_ok : ∀ (m : Nat) (S : List Int), S.Pairwise (· < ·) → S.length = m → PMok m S
  | 0, S, _, hl => by
    have : S = [] := List.length_eq_zero_iff.1 hl
    subst this
    exact ⟨rfl, rfl, rfl⟩
  | m + 1, S, hS, hl => by
    cases S with
    | nil => simp at hl
    | cons x B =>
      obtain ⟨h1, h2, h3⟩ := PM_blocks m (fun S => PM_ok m S) (x :: B) hS hl B [] x rfl
      refine ⟨h1, ?_, h3⟩
      have h4 := h2
      rw [List.erase_cons_head] at h4
      exact h4
/-! ### The first of the least -/
def fst1 (F : List Int → Int) (st : List Int × Int) (p : List Int) : List Int × Int := if st.2 < 0 ∨ F p < st.2 then (p, F p) else st
def fst2 (st q : List Int × Int) : List Int × Int := if st.2 < 0 ∨ q.2 < st.2 then q else st
def fm (F : List Int → Int) (L : List (List Int)) : List Int × Int := L.foldl (fst1 F) ([], -1)
theorem fst_assoc {F : List Int → Int} {st q : List Int × Int} {p : List Int} (hq : 0 ≤ q.2) (hp : 0 ≤ F p) : fst1 F (fst2 st q) p = fst2 st (fst1 F q p) := by
  unfold fst1 fst2
  by_cases h1 : st.2 < 0 ∨ q.2 < st.2
  · rw [if_pos h1]
    by_cases h2 : q.2 < 0 ∨ F p < q.2
    · rw [if_pos h2, if_pos (by simp; omega)]
    · rw [if_neg h2, if_pos h1]
  · rw [if_neg h1]
    by_cases h2 : q.2 < 0 ∨ F p < q.2
    · rw [if_pos h2]
    · rw [if_neg h2, if_neg h1, if_neg (by omega)]
theorem fm_pos {F : List Int → Int} : ∀ (L : List (List Int)) (st : List Int × Int), (∀ p ∈ L, 0 ≤ F p) → (0 ≤ st.2 ∨ L ≠ []) → 0 ≤ (L.foldl (fst1 F) st).2
  | [], st, _, h => by rcases h with h | h; exact h; exact absurd rfl h
  | p :: L, st, hF, _ => by
    rw [List.foldl_cons]
    refine fm_pos L _ (fun q hq => hF q (by simp [hq])) (Or.inl ?_)
    have := hF p (by simp)
    unfold fst1
    split
    · exact this
    · rename_i h; omega
theorem fm_foldR {F : List Int → Int} (st : List Int × Int) : ∀ (R : List (List Int)), R ≠ [] → (∀ p ∈ R, 0 ≤ F p) → R.reverse.foldl (fst1 F) st = fst2 st (fm F R.reverse)
  | [], h, _ => absurd rfl h
  | p :: R, _, hF => by
    have hp := hF p (by simp)
    have hR : ∀ q ∈ R, 0 ≤ F q := fun q hq => hF q (by simp [hq])
    rw [List.reverse_cons]
    by_cases h0 : R = []
    · subst h0
      have e : fm F ([].reverse ++ [p]) = (p, F p) := by
        show fst1 F ([], -1) p = _
        exact if_pos (Or.inl (by show (-1 : Int) < 0; omega))
      rw [e]
      rfl
    · have h1 := fm_foldR st R h0 hR
      have h2 : 0 ≤ (fm F R.reverse).2 := fm_pos R.reverse _ (fun q hq => hR q (by simpa using hq)) (Or.inr (by simpa using h0))
      have h3 : fm F (R.reverse ++ [p]) = fst1 F (fm F R.reverse) p := by unfold fm; rw [List.foldl_append]; rfl
      rw [List.foldl_append, h1, h3, ← fst_assoc h2 hp]
      rfl
theorem fm_fold {F : List Int → Int} (st : List Int × Int) {L : List (List Int)} (h : L ≠ []) (hF : ∀ p ∈ L, 0 ≤ F p) : L.foldl (fst1 F) st = fst2 st (fm F L) := by
  have := fm_foldR (F := F) st L.reverse (by simpa using h) (fun p hp => hF p (by simpa using hp))
  rwa [List.reverse_reverse] at this
end Go.Proofs.Ytkbceojeahninaa
