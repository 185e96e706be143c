/- Plain laws: the best order: the search of the reference finds the first of the least of all orders. -/
import Derived.Test.YtkbceojeahninaaNxP
namespace Go.Proofs.Ytkbceojeahninaa
set_option linter.unusedVariables false
def rngI (n : Nat) : List Int := (List.range n).map fun (k : Nat) => (k : Int)
theorem rngI_len (n : Nat) : (rngI n).length = n := by simp [rngI]
theorem rngI_mem {n : Nat} {x : Int} : x ∈ rngI n ↔ 0 ≤ x ∧ x < (n : Int) := by
  unfold rngI
  rw [List.mem_map]
  constructor
  · rintro ⟨k, hk, rfl⟩
    have := List.mem_range.1 hk
    omega
  · intro h
    exact ⟨x.toNat, List.mem_range.2 (by omega), by omega⟩
theorem rngI_asc (n : Nat) : (rngI n).Pairwise (· < ·) := by
  unfold rngI
  rw [List.pairwise_map]
  exact (List.pairwise_lt_range (n := n)).imp fun h => by omega
theorem rngI_succ (n : Nat) : rngI (n + 1) = rngI n ++ [(n : Int)] := by simp [rngI, List.range_succ]
theorem asc_nodupI {S : List Int} (h : S.Pairwise (· < ·)) : S.Nodup := by
  rw [List.nodup_iff_pairwise_ne]
  exact h.imp fun h e => by omega
/-! ### Costs are not negative -/
theorem cyl_at {s t : Int} {P : List (Int × Int)} (h : cylB s t P = true) {k : Nat} (hk : k < P.length) : (0 ≤ tm P k ∧ tm P k ≤ 99) ∧ (0 ≤ pt P k ∧ pt P k ≤ s - 1) ∧ (4 ≤ s ∧ s ≤ 96) := by
  have hp : cylP s t P := of_decide_eq_true h
  have h1 := hp.2.2.2 k hk
  have h2 := hp.1
  have h3 := hp.2.1
  exact ⟨⟨h1.1.1, by have := h1.1.2; omega⟩, h1.2.1, h2⟩
theorem mv_pos {s t : Int} {P : List (Int × Int)} (h : cylB s t P = true) {x y : Nat} (hx : x < P.length) (hy : y < P.length) : 0 ≤ mvZ s P x y := by
  obtain ⟨a1, a2, a3⟩ := cyl_at h hx
  obtain ⟨b1, b2, _⟩ := cyl_at h hy
  have hg : 0 ≤ gapZ (pt P x) (pt P y) s := by
    have : gapOk (pt P x) (pt P y) s := ⟨by omega, by omega, a2.1, a2.2, b2.1, b2.2⟩
    unfold gapZ
    rw [if_pos this]
    omega
  unfold mvZ moveZ moveG
  rw [if_pos ⟨hg, a1.1, a1.2, b1.1, b1.2⟩]
  omega
theorem way_pos {s t : Int} {P : List (Int × Int)} (h : cylB s t P = true) {l : List Int} (hl : ∀ x ∈ l, 0 ≤ x ∧ x < (P.length : Int)) : ∀ k, k ≤ l.length → 0 ≤ wayTo s P l k
  | 0, _ => by rw [way_zero]; omega
  | k + 1, hk => by
    have h1 := way_pos h hl k (by omega)
    unfold wayTo
    split
    · omega
    · have hx := hl (gt l (k - 1)) (gt_mem.2 ⟨k - 1, by omega, rfl⟩)
      have hy := hl (gt l k) (gt_mem.2 ⟨k, by omega, rfl⟩)
      have := mv_pos h (x := (gt l (k - 1)).toNat) (y := (gt l k).toNat) (by omega) (by omega)
      omega
def cosF (s : Int) (P : List (Int × Int)) (p : List Int) : Int := wayTo s P p p.length
theorem cos_pos {s t : Int} {P : List (Int × Int)} (h : cylB s t P = true) {l : List Int} (hl : ∀ x ∈ l, 0 ≤ x ∧ x < (P.length : Int)) : 0 ≤ cosF s P l := way_pos h hl l.length (Nat.le_refl _)
theorem way_app (s : Int) (P : List (Int × Int)) (l m : List Int) : ∀ k, k ≤ l.length → wayTo s P (l ++ m) k = wayTo s P l k
  | 0, _ => rfl
  | k + 1, hk => by
    rw [wayTo, wayTo, way_app s P l m k (by omega)]
    by_cases h : k = 0
    · rw [if_pos h, if_pos h]
    · rw [if_neg h, if_neg h]
      have e1 : gt (l ++ m) (k - 1) = gt l (k - 1) := gt_app_left _ (by omega)
      have e2 : gt (l ++ m) k = gt l k := gt_app_left _ (by omega)
      rw [e1, e2]
theorem cos_snoc {s : Int} {P : List (Int × Int)} {l : List Int} {m x y : Nat} (hm : l.length = m + 1) (hx : gt l m = (x : Int)) : cosF s P (l ++ [(y : Int)]) = cosF s P l + mvZ s P x y := by
  unfold cosF
  rw [List.length_append, List.length_singleton, hm]
  have e1 : gt (l ++ [(y : Int)]) m = (x : Int) := by rw [gt_app_left _ (by omega)]; exact hx
  have e2 : gt (l ++ [(y : Int)]) (m + 1) = (y : Int) := by have := gt_snoc_last l (y : Int); rwa [hm] at this
  rw [way_next e1 e2, way_app s P l _ (m + 1) (by omega)]
theorem cos_nil (s : Int) (P : List (Int × Int)) : cosF s P [] = 0 := rfl
theorem cos_one (s : Int) (P : List (Int × Int)) (y : Int) : cosF s P ([] ++ [y]) = 0 := rfl
/-! ### The members of all orders -/
theorem PM_perm : ∀ (m : Nat) (S p : List Int), p ∈ PM m S → S.length = m → p.Perm S
  | 0, S, p, h, hl => by
    have : S = [] := List.length_eq_zero_iff.1 hl
    subst this
    simp [PM] at h
    subst h
    exact List.Perm.refl _
  | m + 1, S, p, h, hl => by
    simp only [PM, List.mem_flatMap, List.mem_map] at h
    obtain ⟨x, hx, q, hq, rfl⟩ := h
    have h1 := PM_perm m (S.erase x) q hq (by rw [List.length_erase_of_mem hx, hl]; rfl)
    exact (List.Perm.cons x h1).trans (List.perm_cons_erase hx).symm
/-! ### The search -/
def sr (s : Int) (P : List (Int × Int)) : Nat → List Int → List Int × Int
  | 0, h => (h, cosF s P h)
  | m + 1, h => (List.range P.length).foldl (fun st (k : Nat) => if hasL h (k : Int) = true then st else fst2 st (sr s P m (h ++ [(k : Int)]))) ([], -1)
def srTo (s : Int) (P : List (Int × Int)) (m : Nat) (h : List Int) (k : Nat) : List Int × Int := (List.range k).foldl (fun st (k : Nat) => if hasL h (k : Int) = true then st else fst2 st (sr s P m (h ++ [(k : Int)]))) ([], -1)
theorem sr_zero (s : Int) (P : List (Int × Int)) (h : List Int) : sr s P 0 h = (h, cosF s P h) := rfl
theorem sr_succ (s : Int) (P : List (Int × Int)) (m : Nat) (h : List Int) : sr s P (m + 1) h = srTo s P m h P.length := rfl
theorem srTo_zero (s : Int) (P : List (Int × Int)) (m : Nat) (h : List Int) : srTo s P m h 0 = ([], -1) := rfl
theorem srTo_has {s : Int} {P : List (Int × Int)} {m : Nat} {h : List Int} {k : Nat} (hh : hasL h (k : Int) = true) : srTo s P m h (k + 1) = srTo s P m h k := by
  unfold srTo
  rw [List.range_succ, List.foldl_append, List.foldl_cons, List.foldl_nil, if_pos hh]
theorem srTo_new {s : Int} {P : List (Int × Int)} {m : Nat} {h : List Int} {k : Nat} (hh : hasL h (k : Int) = false) : srTo s P m h (k + 1) = fst2 (srTo s P m h k) (sr s P m (h ++ [(k : Int)])) := by
  unfold srTo
  rw [List.range_succ, List.foldl_append, List.foldl_cons, List.foldl_nil, if_neg (by rw [hh]; simp)]
def avl (n : Nat) (h : List Int) : List Int := (rngI n).filter fun x => !hasL h x
theorem avl_nil (n : Nat) : avl n [] = rngI n := by
  unfold avl
  rw [List.filter_eq_self]
  intro x _
  rfl
theorem avl_mem {n : Nat} {h : List Int} {x : Int} : x ∈ avl n h ↔ (0 ≤ x ∧ x < (n : Int)) ∧ hasL h x = false := by
  unfold avl
  rw [List.mem_filter, rngI_mem, Bool.not_eq_true']
theorem avl_asc (n : Nat) (h : List Int) : (avl n h).Pairwise (· < ·) := (rngI_asc n).sublist List.filter_sublist
theorem has_snoc (h : List Int) (x y : Int) : hasL (h ++ [y]) x = (hasL h x || decide (x = y)) := by
  unfold hasL
  rw [← Bool.decide_or, decide_eq_decide, List.mem_append, List.mem_singleton]
theorem avl_snoc (n : Nat) (h : List Int) (y : Int) : avl n (h ++ [y]) = (avl n h).erase y := by
  rw [List.Nodup.erase_eq_filter (asc_nodupI (avl_asc n h))]
  unfold avl
  rw [List.filter_filter]
  congr 1
  funext x
  rw [has_snoc]
  by_cases e : x = y
  · subst e; simp
  · simp [e]
theorem foldl_flat {F : List Int → Int} {f : Int → List (List Int)} : ∀ (A : List Int) (st : List Int × Int), (∀ x ∈ A, f x ≠ [] ∧ ∀ p ∈ f x, 0 ≤ F p) → (A.flatMap f).foldl (fst1 F) st = A.foldl (fun st x => fst2 st (fm F (f x))) st
  | [], _, _ => rfl
  | x :: A, st, h => by
    rw [List.flatMap_cons, List.foldl_append, List.foldl_cons, fm_fold st (h x (by simp)).1 (h x (by simp)).2]
    exact foldl_flat A _ fun y hy => h y (by simp [hy])
theorem foldl_filter2 {β : Type} {c : Int → Bool} {g : β → Int → β} : ∀ (A : List Int) (st : β), (A.filter c).foldl g st = A.foldl (fun st x => if c x = true then g st x else st) st
  | [], _ => rfl
  | x :: A, st => by
    rw [List.filter_cons, List.foldl_cons]
    by_cases h : c x = true
    · rw [if_pos h, List.foldl_cons, foldl_filter2 A]
      rw [if_pos h]
    · rw [if_neg h, foldl_filter2 A]
      rw [if_neg h]
theorem foldl_congr2 {β : Type} {g1 g2 : β → Int → β} : ∀ (A : List Int) (st : β), (∀ st, ∀ x ∈ A, g1 st x = g2 st x) → A.foldl g1 st = A.foldl g2 st
  | [], _, _ => rfl
  | x :: A, st, h => by
    rw [List.foldl_cons, List.foldl_cons, h st x (by simp)]
    exact foldl_congr2 A _ fun st y hy => h st y (by simp [hy])
theorem sr_fm {s t : Int} {P : List (Int × Int)} (hc : cylB s t P = true) : ∀ (m : Nat) (h : List Int), (avl P.length h).length = m → (∀ x ∈ h, 0 ≤ x ∧ x < (P.length : Int)) →
    sr s P m h = fm (cosF s P) ((PM m (avl P.length h)).map (h ++ ·)) ∧ (∀ p ∈ (PM m (avl P.length h)).map (h ++ ·), 0 ≤ cosF s P p)
  | 0, h, hl, hr => by
    have e : (PM 0 (avl P.length h)).map (h ++ ·) = [h] := by simp [PM]
    rw [e]
    refine ⟨?_, fun p hp => by rw [List.mem_singleton] at hp; subst hp; exact cos_pos hc hr⟩
    have e2 : fm (cosF s P) [h] = (h, cosF s P h) := by
      show fst1 (cosF s P) ([], -1) h = _
      exact if_pos (Or.inl (by show (-1 : Int) < 0; omega))
    rw [e2, sr_zero]
  | m + 1, h, hl, hr => by
    have hb : ∀ x ∈ avl P.length h, (avl P.length (h ++ [x])).length = m ∧ (∀ y ∈ h ++ [x], 0 ≤ y ∧ y < (P.length : Int)) := fun x hx => by
      refine ⟨by rw [avl_snoc, List.length_erase_of_mem hx, hl]; rfl, fun y hy => ?_⟩
      rcases List.mem_append.1 hy with hy | hy
      · exact hr y hy
      · rw [List.mem_singleton] at hy; subst hy; exact (avl_mem.1 hx).1
    have e : (PM (m + 1) (avl P.length h)).map (h ++ ·) = (avl P.length h).flatMap fun x => (PM m (avl P.length (h ++ [x]))).map ((h ++ [x]) ++ ·) := by
      rw [PM, List.map_flatMap]
      congr 1
      funext x
      rw [avl_snoc, List.map_map]
      congr 1
      funext p
      simp
    rw [e]
    have hok : ∀ x ∈ avl P.length h, (PM m (avl P.length (h ++ [x]))).map ((h ++ [x]) ++ ·) ≠ [] ∧ ∀ p ∈ (PM m (avl P.length (h ++ [x]))).map ((h ++ [x]) ++ ·), 0 ≤ cosF s P p := fun x hx => by
      obtain ⟨h1, h2⟩ := hb x hx
      refine ⟨fun h0 => ?_, (sr_fm hc m (h ++ [x]) h1 h2).2⟩
      exact sg_ne (PM_ok m _ (avl_asc _ _) h1).1 (List.map_eq_nil_iff.1 h0)
    constructor
    · unfold fm
      rw [foldl_flat _ _ hok]
      unfold avl
      rw [foldl_filter2]
      rw [sr_succ]
      unfold srTo rngI
      rw [List.foldl_map]
      have hcg : ∀ (R : List Nat) (st : List Int × Int), (∀ k ∈ R, k < P.length) → R.foldl (fun st (k : Nat) => if hasL h (k : Int) = true then st else fst2 st (sr s P m (h ++ [(k : Int)]))) st =
          R.foldl (fun st (k : Nat) => if (!hasL h (k : Int)) = true then fst2 st (fm (cosF s P) ((PM m (avl P.length (h ++ [(k : Int)]))).map ((h ++ [(k : Int)]) ++ ·))) else st) st := by
        intro R
        induction R with
        | nil => intro st _; rfl
        | cons k R ih =>
          intro st hR
          rw [List.foldl_cons, List.foldl_cons]
          have hk := hR k (by simp)
          have e3 : (if hasL h (k : Int) = true then st else fst2 st (sr s P m (h ++ [(k : Int)]))) = (if (!hasL h (k : Int)) = true then fst2 st (fm (cosF s P) ((PM m (avl P.length (h ++ [(k : Int)]))).map ((h ++ [(k : Int)]) ++ ·))) else st) := by
            cases hh : hasL h (k : Int)
            · rw [if_neg (by simp), if_pos (by simp)]
              obtain ⟨h1, h2⟩ := hb (k : Int) (avl_mem.2 ⟨by omega, hh⟩)
              rw [(sr_fm hc m _ h1 h2).1]
            · rw [if_pos rfl, if_neg (by simp)]
          rw [e3]
          exact ih _ fun j hj => hR j (by simp [hj])
      exact hcg (List.range P.length) _ fun k hk => List.mem_range.1 hk
    · intro p hp
      rw [List.mem_flatMap] at hp
      obtain ⟨x, hx, hp⟩ := hp
      exact (hok x hx).2 p hp
noncomputable def bstB (s t : Int) (P : List (Int × Int)) : Bool := decide (cylB s t P = true ∧ P.length ≤ 7)
noncomputable def bstL (s t : Int) (P : List (Int × Int)) : List Int := if bstB s t P = true then (fm (cosF s P) (PM P.length (rngI P.length))).1 else []
theorem bst_no {s t : Int} {P : List (Int × Int)} (h : ¬ (cylB s t P = true ∧ P.length ≤ 7)) : bstB s t P = false ∧ bstL s t P = [] := by
  have h1 : bstB s t P = false := decide_eq_false h
  exact ⟨h1, by unfold bstL; rw [h1]; rfl⟩
theorem bst_yes {s t : Int} {P : List (Int × Int)} (h : cylB s t P = true ∧ P.length ≤ 7) : bstB s t P = true ∧ bstL s t P = (fm (cosF s P) (PM P.length (rngI P.length))).1 := by
  have h1 : bstB s t P = true := decide_eq_true h
  exact ⟨h1, by unfold bstL; rw [h1]; rfl⟩
theorem sr_best {s t : Int} {P : List (Int × Int)} (h : cylB s t P = true) : sr s P P.length [] = fm (cosF s P) (PM P.length (rngI P.length)) := by
  have := (sr_fm h P.length [] (by rw [avl_nil, rngI_len]) (fun x hx => by cases hx)).1
  rw [this, avl_nil]
  congr 1
  simp
theorem fm_mem {F : List Int → Int} : ∀ (L : List (List Int)) (st : List Int × Int), (L.foldl (fst1 F) st).1 = st.1 ∨ (L.foldl (fst1 F) st).1 ∈ L
  | [], st => Or.inl rfl
  | p :: L, st => by
    rw [List.foldl_cons]
    rcases fm_mem (F := F) L (fst1 F st p) with h | h
    · rw [h]
      unfold fst1
      split
      · exact Or.inr (by simp)
      · exact Or.inl rfl
    · exact Or.inr (by simp [h])
theorem bstL_len (s t : Int) (P : List (Int × Int)) : (bstL s t P).length ≤ 7 := by
  by_cases h : cylB s t P = true ∧ P.length ≤ 7
  · rw [(bst_yes h).2]
    unfold fm
    rcases fm_mem (F := cosF s P) (PM P.length (rngI P.length)) ([], -1) with h1 | h1
    · rw [h1]; simp
    · have := (PM_perm _ _ _ h1 (rngI_len _)).length_eq
      rw [rngI_len] at this
      omega
  · rw [(bst_no h).2]; simp
end Go.Proofs.Ytkbceojeahninaa
