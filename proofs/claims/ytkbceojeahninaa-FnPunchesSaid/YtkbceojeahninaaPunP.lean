/- The plain laws of FnPunches: no order of pins is shorter than the best one. -/
import Derived.Test.YtkbceojeahninaaTrkS
import Derived.Test.YtkbceojeahninaaNeoI
import Derived.Test.YtkbceojeahninaaSwap
namespace Go.Proofs.Ytkbceojeahninaa
open Go.ChangeShapes Go.WideShapes Go.ChangeAt Go.RowKit
set_option linter.unusedVariables false
theorem perm_of {n : Nat} {l : List Int} (hn : l.Nodup) (hm : ∀ x, x ∈ l ↔ x ∈ rngI n) : l.Perm (rngI n) := by
  have hr : (rngI n).Nodup := asc_nodupI (rngI_asc n)
  rw [List.perm_iff_count]
  intro a
  have h1 := List.nodup_iff_count.1 hn a
  have h2 := List.nodup_iff_count.1 hr a
  by_cases e : a ∈ l
  · have h3 := List.count_pos_iff.2 e
    have h4 := List.count_pos_iff.2 ((hm a).1 e)
    omega
  · have h3 := List.count_eq_zero.2 e
    have h4 := List.count_eq_zero.2 (fun h => e ((hm a).2 h))
    omega
theorem full_of {n : Nat} {l : List Int} (hn : l.Nodup) (hr : ∀ x ∈ l, 0 ≤ x ∧ x < (n : Int)) (hl : l.length = n) : l.Perm (rngI n) := by
  refine perm_of hn fun x => ⟨fun h => rngI_mem.2 (hr x h), fun h => ?_⟩
  by_cases e : x ∈ l
  · exact e
  · have := sub_len (x :: l) (rngI n) (List.nodup_cons.2 ⟨e, hn⟩) (fun y hy => by
      rcases List.mem_cons.1 hy with h1 | h1
      · rw [h1]; exact h
      · exact rngI_mem.2 (hr y h1))
    rw [rngI_len, List.length_cons] at this
    omega
theorem gtP_get {l : List Int} {k : Nat} (h : k < l.length) : gt l k = l[k] := by
  unfold gt; rw [List.getD_eq_getElem?_getD, List.getElem?_eq_getElem h]; rfl
theorem prm_dis {l : List Int} {n : Nat} (h : prmB l n = true) : ∀ i j, i < l.length → j < l.length → i ≠ j → gt l i ≠ gt l j := by
  intro i j hi hj hne
  have hp := (of_decide_eq_true h : prmP l n).2
  rcases Nat.lt_or_gt_of_ne hne with e | e
  · exact (hp j hj).2 i e
  · exact fun q => (hp i hi).2 j e q.symm
theorem prm_perm {l : List Int} {n : Nat} (h : prmB l n = true) : l.Perm (rngI n) := by
  refine full_of ?_ (fun x hx => ?_) (prm_ln h)
  · rw [List.nodup_iff_pairwise_ne, List.pairwise_iff_getElem]
    intro i j hi hj hij
    rw [← gtP_get hi, ← gtP_get hj]
    exact prm_dis h i j hi hj (by omega)
  · obtain ⟨k, hk, rfl⟩ := List.getElem_of_mem hx
    rw [← gtP_get hk]; exact prm_at h hk
/-- All orders are among all orders. -/
theorem PM_all : ∀ (m : Nat) (S p : List Int), p.Perm S → S.length = m → p ∈ PM m S
  | 0, S, p, h, hl => by
    have h1 : S = [] := List.length_eq_zero_iff.1 hl
    subst h1
    rw [h.eq_nil]
    simp [PM]
  | m + 1, S, p, h, hl => by
    cases p with
    | nil => have := h.length_eq; rw [hl] at this; simp at this
    | cons x q =>
      have hx : x ∈ S := h.mem_iff.1 (List.mem_cons_self ..)
      have h2 : q.Perm (S.erase x) := List.Perm.cons_inv (h.trans (List.perm_cons_erase hx))
      simp only [PM, List.mem_flatMap, List.mem_map]
      exact ⟨x, hx, q, PM_all m (S.erase x) q h2 (by rw [List.length_erase_of_mem hx, hl]; rfl), rfl⟩
theorem fm_keep {F : List Int → Int} : ∀ (L : List (List Int)) (st : List Int × Int), 0 ≤ st.2 → (∀ p ∈ L, 0 ≤ F p) → (L.foldl (fst1 F) st).2 ≤ st.2
  | [], st, _, _ => Int.le_refl _
  | q :: L, st, h, hF => by
    rw [List.foldl_cons]
    have hq := hF q (List.mem_cons_self ..)
    have e : 0 ≤ (fst1 F st q).2 ∧ (fst1 F st q).2 ≤ st.2 := by
      unfold fst1
      split
      · rename_i h1
        show 0 ≤ F q ∧ F q ≤ st.2
        omega
      · exact ⟨h, Int.le_refl _⟩
    have := fm_keep L (fst1 F st q) e.1 fun p hp => hF p (List.mem_cons_of_mem _ hp)
    omega
theorem fm_le {F : List Int → Int} {p : List Int} : ∀ (L : List (List Int)) (st : List Int × Int), (∀ p ∈ L, 0 ≤ F p) → p ∈ L → (L.foldl (fst1 F) st).2 ≤ F p
  | q :: L, st, hF, hp => by
    rw [List.foldl_cons]
    have hq := hF q (List.mem_cons_self ..)
    rcases List.mem_cons.1 hp with e | e
    · subst e
      have e : 0 ≤ (fst1 F st p).2 ∧ (fst1 F st p).2 ≤ F p := by
        unfold fst1
        split
        · show 0 ≤ F p ∧ F p ≤ F p
          omega
        · omega
      have := fm_keep L (fst1 F st p) e.1 fun p hp => hF p (List.mem_cons_of_mem _ hp)
      omega
    · exact fm_le L _ (fun p hp => hF p (List.mem_cons_of_mem _ hp)) e
theorem fm_cost {F : List Int → Int} : ∀ (L : List (List Int)) (st : List Int × Int), (st.2 < 0 ∨ F st.1 = st.2) → (∀ p ∈ L, 0 ≤ F p) → ((L.foldl (fst1 F) st).2 < 0 ∨ F (L.foldl (fst1 F) st).1 = (L.foldl (fst1 F) st).2)
  | [], st, h, _ => h
  | q :: L, st, h, hF => by
    rw [List.foldl_cons]
    refine fm_cost L _ ?_ fun p hp => hF p (List.mem_cons_of_mem _ hp)
    unfold fst1
    split
    · exact Or.inr rfl
    · exact h
section
variable {s t : Int} {P : List (Int × Int)}
theorem PM_pos (h : cylB s t P = true) : ∀ p ∈ PM P.length (rngI P.length), 0 ≤ cosF s P p := fun p hp =>
  cos_pos h fun x hx => rngI_mem.1 ((PM_perm _ _ _ hp (rngI_len _)).mem_iff.1 hx)
/-- The best order is one, and none is cheaper. -/
theorem best_law (h : cylB s t P = true) (hl : P.length ≤ 7) : bstB s t P = true ∧ prmB (bstL s t P) P.length = true ∧ ∀ p, prmB p P.length = true → cosF s P (bstL s t P) ≤ cosF s P p := by
  obtain ⟨e1, e2⟩ := bst_yes ⟨h, hl⟩
  have hne : PM P.length (rngI P.length) ≠ [] := List.ne_nil_of_mem (PM_all _ _ _ (List.Perm.refl _) (rngI_len _))
  have hpos := fm_pos (F := cosF s P) (PM P.length (rngI P.length)) ([], -1) (PM_pos h) (Or.inr hne)
  have hcost := fm_cost (F := cosF s P) (PM P.length (rngI P.length)) ([], -1) (Or.inl (by show (-1 : Int) < 0; omega)) (PM_pos h)
  have hm : (fm (cosF s P) (PM P.length (rngI P.length))).1 ∈ PM P.length (rngI P.length) := by
    obtain ⟨q, M, hM⟩ := List.exists_cons_of_ne_nil hne
    unfold fm
    rw [hM, List.foldl_cons]
    have e : fst1 (cosF s P) ([], -1) q = (q, cosF s P q) := if_pos (Or.inl (by show (-1 : Int) < 0; omega))
    rw [e]
    rcases fm_mem (F := cosF s P) M (q, cosF s P q) with h1 | h1
    · rw [h1]; exact List.mem_cons_self ..
    · exact List.mem_cons_of_mem _ h1
  refine ⟨e1, by rw [e2]; exact perm_prm (PM_perm _ _ _ hm (rngI_len _)), fun p hp => ?_⟩
  have h1 := fm_le (F := cosF s P) (PM P.length (rngI P.length)) ([], -1) (PM_pos h) (PM_all _ _ _ (prm_perm hp) (rngI_len _))
  rw [e2]
  unfold fm at *
  rcases hcost with h2 | h2
  · omega
  · rw [h2]; exact h1
theorem way_cos (h : cylB s t P = true) {p : List Int} (hp : prmB p P.length = true) : wayZ s t P p = cosF s P p := way_yes h hp
theorem nea_prm (h : cylB s t P = true) : prmB (neaZ s t P) P.length = true := by
  rw [neaZ_yes h]
  obtain ⟨h1, h2⟩ := nea_ok s P P.length (Nat.le_refl _)
  exact perm_prm (full_of h1 h2 (nea_len s P _))
theorem nea_head (s : Int) (P : List (Int × Int)) (hn : 0 < P.length) : ∀ j, gt (neaTo s P (j + 1)) 0 = 0
  | 0 => by
    obtain ⟨m, hm⟩ : ∃ m, P.length = m + 1 := ⟨P.length - 1, by omega⟩
    have h1 := (nb_first (s := s) (P := P) m).1
    rw [← hm] at h1
    show gt ([] ++ [nbB s P [] P.length]) 0 = 0
    rw [h1]; rfl
  | j + 1 => by
    rw [nea_succ, gt_snoc_lt (by rw [nea_len]; omega)]
    exact nea_head s P hn j
theorem nea_zero (h : cylB s t P = true) (hn : 0 < P.length) : gt (neaZ s t P) 0 = 0 := by
  rw [neaZ_yes h]
  obtain ⟨m, hm⟩ : ∃ m, P.length = m + 1 := ⟨P.length - 1, by omega⟩
  rw [hm]; exact nea_head s P hn m
theorem trk_prm (h : cylB s t P = true) : prmB (trkL s t P) P.length = true := by
  rw [trkL_yes h]
  have hp : cylP s t P := of_decide_eq_true h
  refine perm_prm (perm_of ?_ fun x => ?_)
  · rw [List.nodup_iff_pairwise_ne]
    exact (trkT_asc P t.toNat).imp fun h1 e => by subst e; unfold ltK at h1; omega
  · rw [trkT_mem, rngI_mem]
    constructor
    · rintro ⟨k, hk, rfl, _, _⟩; omega
    · intro hx
      have h1 := (hp.2.2.2 x.toNat (by omega)).1
      exact ⟨x.toNat, by omega, by omega, by omega, by omega⟩
/-- The pins are in order. -/
theorem pin_lt (h : cylB s t P = true) (i : Nat) : ∀ d, i + d + 1 < P.length → lessB (pt P i) (tm P i) (pt P (i + d + 1)) (tm P (i + d + 1)) = true
  | 0, hd => ((of_decide_eq_true h : cylP s t P).2.2.2 (i + 1) hd).2.2 (by omega)
  | d + 1, hd => by
    have h1 := pin_lt h i d (by omega)
    have h2 : lessB (pt P (i + d + 1)) (tm P (i + d + 1)) (pt P (i + d + 1 + 1)) (tm P (i + d + 1 + 1)) = true := ((of_decide_eq_true h : cylP s t P).2.2.2 (i + d + 1 + 1) hd).2.2 (by omega)
    show lessB _ _ (pt P (i + d + 1 + 1)) (tm P (i + d + 1 + 1)) = true
    unfold lessB at *
    simp only [Bool.or_eq_true, Bool.and_eq_true, decide_eq_true_eq] at *
    omega
theorem pin_lt2 (h : cylB s t P = true) {i k : Nat} (hik : i < k) (hk : k < P.length) : pt P i < pt P k ∨ (pt P i = pt P k ∧ tm P i < tm P k) := by
  have h1 := pin_lt h i (k - i - 1) (by omega)
  rw [show i + (k - i - 1) + 1 = k by omega] at h1
  unfold lessB at h1
  simpa only [Bool.or_eq_true, Bool.and_eq_true, decide_eq_true_eq] using h1
theorem trk_step (h : cylB s t P = true) {k : Nat} (hk : k + 1 < P.length) : ∃ u v : Nat, gt (trkL s t P) k = (u : Int) ∧ gt (trkL s t P) (k + 1) = (v : Int) ∧ u < P.length ∧ v < P.length ∧ (tm P u < tm P v ∨ (tm P u = tm P v ∧ pt P u < pt P v)) := by
  have hp := trk_prm h
  have hl := prm_ln hp
  have r1 := prm_at hp (k := k) (by omega)
  have r2 := prm_at hp (k := k + 1) (by omega)
  obtain ⟨u, hu⟩ : ∃ u : Nat, gt (trkL s t P) k = (u : Int) := ⟨(gt (trkL s t P) k).toNat, by omega⟩
  obtain ⟨v, hv⟩ : ∃ v : Nat, gt (trkL s t P) (k + 1) = (v : Int) := ⟨(gt (trkL s t P) (k + 1)).toNat, by omega⟩
  refine ⟨u, v, hu, hv, by omega, by omega, ?_⟩
  have h1 := trkT_asc P t.toNat
  rw [← trkL_yes h, List.pairwise_iff_getElem] at h1
  have h2 := h1 k (k + 1) (by omega) (by omega) (by omega)
  rw [← gtP_get (by omega), ← gtP_get (by omega), hu, hv] at h2
  unfold ltK keyT at h2
  rw [Int.toNat_natCast, Int.toNat_natCast] at h2
  rcases h2 with h2 | ⟨h2, h3⟩
  · exact Or.inl h2
  · have := pin_lt2 h (i := u) (k := v) (by omega) (by omega)
    exact Or.inr ⟨h2, by omega⟩
/-- The cost of a move. -/
theorem mv_law (h : cylB s t P = true) {i k : Nat} (hi : i < P.length) (hk : k < P.length) : mvZ s P i k = mvZ s P k i ∧ (mvZ s P i k = 0 ↔ i = k) := by
  obtain ⟨a1, a2, a3⟩ := cyl_at h hi
  obtain ⟨b1, b2, _⟩ := cyl_at h hk
  have g1 : gapZ (pt P i) (pt P k) s = min (max (pt P i - pt P k) (pt P k - pt P i)) (s - max (pt P i - pt P k) (pt P k - pt P i)) := if_pos ⟨by omega, by omega, by omega, by omega, by omega, by omega⟩
  have g2 : gapZ (pt P k) (pt P i) s = min (max (pt P k - pt P i) (pt P i - pt P k)) (s - max (pt P k - pt P i) (pt P i - pt P k)) := if_pos ⟨by omega, by omega, by omega, by omega, by omega, by omega⟩
  have m1 : mvZ s P i k = gapZ (pt P i) (pt P k) s + max (tm P i - tm P k) (tm P k - tm P i) := if_pos ⟨by rw [g1]; omega, by omega, by omega, by omega, by omega⟩
  have m2 : mvZ s P k i = gapZ (pt P k) (pt P i) s + max (tm P k - tm P i) (tm P i - tm P k) := if_pos ⟨by rw [g2]; omega, by omega, by omega, by omega, by omega⟩
  rw [m1, m2, g1, g2]
  refine ⟨by omega, fun h0 => ?_, fun e => by subst e; omega⟩
  rcases Nat.lt_trichotomy i k with e | e | e
  · have := pin_lt2 h e hk; omega
  · exact e
  · have := pin_lt2 h e hi; omega
/-- A part turned. -/
theorem swap_law {b : List Int} {n i k : Nat} (hb : prmB b n = true) (hik : i ≤ k) (hk : k < n) : swapB b i k = true ∧ prmB (swapZ b i k) n = true ∧ gt (swapZ b i k) i = gt b k ∧ gt (swapZ b i k) k = gt b i := by
  have hl := prm_ln hb
  have ho : swapOk b (i : Int) (k : Int) := ⟨by omega, by omega, by omega⟩
  have hz : swapZ b i k = swapL b i k := by unfold swapZ; rw [if_pos ho, Int.toNat_natCast, Int.toNat_natCast]
  have E : ∀ u, u < n → gt (swapL b i k) u = if i ≤ u ∧ u ≤ k then gt b (i + k - u) else gt b u := fun u hu => by
    rw [gt_swapL _ _ _ _ (by omega)]
    unfold revAt
    by_cases e : i ≤ u ∧ u ≤ k
    · rw [if_pos e, if_pos (by omega)]; congr 1; omega
    · rw [if_neg e, if_neg (by omega)]
  have D : ∀ u, u < n → ∃ v, v < n ∧ gt (swapL b i k) u = gt b v ∧ (i ≤ u ∧ u ≤ k ∧ v = i + k - u ∨ ¬ (i ≤ u ∧ u ≤ k) ∧ v = u) := fun u hu => by
    rw [E u hu]
    by_cases e : i ≤ u ∧ u ≤ k
    · exact ⟨i + k - u, by omega, by rw [if_pos e], Or.inl ⟨e.1, e.2, rfl⟩⟩
    · exact ⟨u, hu, by rw [if_neg e], Or.inr ⟨e, rfl⟩⟩
  refine ⟨decide_eq_true ho, ?_, ?_, ?_⟩
  · rw [hz]
    refine prm_yes (by rw [swapL_length]; exact hl) fun u hu => ?_
    rw [swapL_length, hl] at hu
    obtain ⟨v, hv, ev, cv⟩ := D u hu
    refine ⟨by rw [ev]; exact prm_at hb (by omega), fun j hj => ?_⟩
    obtain ⟨x, hx, ex, cx⟩ := D j (by omega)
    rw [ev, ex]
    exact prm_dis hb x v (by omega) (by omega) (by omega)
  · rw [hz, E i (by omega), if_pos (by omega)]; congr 1; omega
  · rw [hz, E k hk, if_pos (by omega)]; congr 1; omega
theorem swap_out {b : List Int} {n : Nat} (hb : b.length = n) : swapB b 0 (n : Int) = false := decide_eq_false fun h => by have := h.2.2; omega
theorem long_way {b : List Int} (hb : b.length = P.length) : wayZ s t P (b ++ [0]) = -1 := way_no fun h => by have := prm_ln h.2; rw [List.length_append, hb] at this; simp at this
end
end Go.Proofs.Ytkbceojeahninaa
