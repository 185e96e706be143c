/- The plain laws of FnDampers: what sounds longer, what is harsh, what needs a damper. -/
import Derived.Test.YtkbceojeahninaaSrt
import Derived.Test.YtkbceojeahninaaLawH
import Derived.Test.YtkbceojeahninaaHarshS
import Derived.Test.YtkbceojeahninaaDampS
namespace Go.Proofs.Ytkbceojeahninaa
open Go.ChangeShapes Go.WideShapes Go.ChangeAt Go.RowKit
set_option linter.unusedVariables false
theorem tune_stepD {l : List (Int × Int)} (h : tuneB l = true) {k : Nat} (hk : k + 1 < l.length) : ltN (l.getD k (0, 0)) (l.getD (k + 1) (0, 0)) = true := by
  have := ((of_decide_eq_true h : tuneP l).1 (k + 1) hk).2.2 (by omega)
  simpa [lessAt, ltN, tm, pt] using this
theorem tune_ltD {l : List (Int × Int)} (h : tuneB l = true) (i : Nat) : ∀ d, i + d + 1 < l.length → ltN (l.getD i (0, 0)) (l.getD (i + d + 1) (0, 0)) = true
  | 0, hd => tune_stepD h hd
  | d + 1, hd => ltN_trans (tune_ltD h i d (by omega)) (tune_stepD h (k := i + d + 1) (by omega))
theorem has_memD {l : List Int} {x : Int} : hasI l x = true ↔ x ∈ l := decide_eq_true_iff
theorem on_inD {l : List (Int × Int)} {x : Int} : ∀ k, x ∈ onZ l k → ∃ j, j < k ∧ x = tm l j
  | 0, h => by simp [onZ] at h
  | k + 1, h => by
    by_cases hc : k = 0 ∨ tm l (k - 1) ≠ tm l k
    · rw [onZ_yes hc, List.mem_append, List.mem_singleton] at h
      rcases h with h | h
      · obtain ⟨j, a, b⟩ := on_inD k h; exact ⟨j, by omega, b⟩
      · exact ⟨k, by omega, h⟩
    · rw [onZ_no hc] at h
      obtain ⟨j, a, b⟩ := on_inD k h; exact ⟨j, by omega, b⟩
theorem selM {f : Nat → Bool} {x : Int} : ∀ P, x ∈ selZ f P ↔ ∃ p : Nat, p < P ∧ x = (p : Int) ∧ f p = true
  | 0 => by simp [selZ]
  | P + 1 => by
    unfold selZ
    by_cases h : f P = true
    · rw [if_pos h, List.mem_append, selM P, List.mem_singleton]
      constructor
      · rintro (⟨p, a, b⟩ | b)
        · exact ⟨p, by omega, b⟩
        · exact ⟨P, by omega, b, h⟩
      · rintro ⟨p, a, b, c⟩
        by_cases e : p = P
        · subst e; exact Or.inr b
        · exact Or.inl ⟨p, by omega, b, c⟩
    · rw [if_neg h, selM P]
      constructor
      · rintro ⟨p, a, b⟩; exact ⟨p, by omega, b⟩
      · rintro ⟨p, a, b, c⟩
        by_cases e : p = P
        · subst e; exact absurd c h
        · exact ⟨p, by omega, b, c⟩
theorem gt_memD {l : List Int} {k : Nat} (h : k < l.length) : gt l k ∈ l := by
  unfold gt; rw [List.getD_eq_getElem?_getD, List.getElem?_eq_getElem h]; exact List.getElem_mem h
theorem mem_gt {l : List Int} {x : Int} (h : x ∈ l) : ∃ k, k < l.length ∧ gt l k = x := by
  obtain ⟨k, hk, e⟩ := List.getElem_of_mem h
  exact ⟨k, hk, by unfold gt; simp [List.getD, hk, e]⟩
/-- What sounds. -/
theorem sou_mem {t : List (Int × Int)} {T L x : Int} (h : souOk t T L) : x ∈ souB t T L ↔ ∃ k, k < t.length ∧ pt t k = x ∧ sndP (tm t k) L T := by
  rw [souB_yes h, selM]
  constructor
  · rintro ⟨p, _, rfl, hf⟩
    exact (souF_iff _).1 hf
  · rintro ⟨k, hk, e, hs⟩
    have := pt_rng h.1 hk
    exact ⟨x.toNat, by omega, by omega, (souF_iff _).2 ⟨k, hk, by omega, hs⟩⟩
theorem snd_more {x L T : Int} (h : sndP x L T) : sndP x (L + 1) T := by unfold sndP at *; omega
theorem snd_mono {x L M T : Int} (h : sndP x L T) (hL : L ≤ M) : sndP x M T := by unfold sndP at *; omega
theorem sou_more {t : List (Int × Int)} {T L : Int} (h : souOk t T L) (h2 : souOk t T (L + 1)) {k : Nat} (hk : k < (souB t T L).length) : hasI (souB t T (L + 1)) (gt (souB t T L) k) = true := by
  rw [has_memD, sou_mem h2]
  obtain ⟨j, a, b, c⟩ := (sou_mem h).1 (gt_memD hk)
  exact ⟨j, a, b, snd_more c⟩
/-- How many sound. -/
theorem sel_one (q : Int) : ∀ P, (selZ (fun p => decide ((p : Int) = q)) P).length ≤ 1 ∧ (q < 0 ∨ (P : Int) ≤ q → (selZ (fun p => decide ((p : Int) = q)) P).length = 0)
  | 0 => by simp [selZ]
  | P + 1 => by
    obtain ⟨a, b⟩ := sel_one q P
    unfold selZ
    by_cases e : (P : Int) = q
    · rw [if_pos (decide_eq_true e), List.length_append, b (Or.inr (by omega))]
      exact ⟨by simp, by omega⟩
    · rw [if_neg (by rw [decide_eq_false e]; simp)]
      exact ⟨a, fun h => b (by omega)⟩
theorem sel_or (f g : Nat → Bool) : ∀ P, (selZ (fun p => f p || g p) P).length ≤ (selZ f P).length + (selZ g P).length
  | 0 => by simp [selZ]
  | P + 1 => by
    have ih := sel_or f g P
    unfold selZ
    cases hf : f P <;> cases hg : g P <;> simp <;> omega
theorem sel_none {f : Nat → Bool} : ∀ P, (∀ p, p < P → f p = false) → (selZ f P).length = 0
  | 0, _ => rfl
  | P + 1, h => by unfold selZ; rw [if_neg (by rw [h P (by omega)]; simp)]; exact sel_none P fun p hp => h p (by omega)
theorem sou_cnt (t : List (Int × Int)) (L T : Int) (P : Nat) : ∀ n, (selZ (fun p => souF t L T (p : Int) n) P).length ≤ (sndZ t L T n).length
  | 0 => by rw [sel_none (f := fun p => souF t L T (p : Int) 0) P (fun p _ => rfl)]; exact Nat.zero_le _
  | n + 1 => by
    have ih := sou_cnt t L T P n
    by_cases hs : sndP (tm t n) L T
    · rw [snd_yes hs, List.length_append]
      have h1 := sel_or (fun p => souF t L T (p : Int) n) (fun p => decide ((p : Int) = pt t n)) P
      have h2 := (sel_one (pt t n) P).1
      have h3 : selZ (fun p => souF t L T (p : Int) (n + 1)) P = selZ (fun p => souF t L T (p : Int) n || decide ((p : Int) = pt t n)) P := by
        apply sel_congr
        intro p _
        show (_ || _) = _
        rw [decide_eq_true hs, Bool.and_true]
        congr 1
        exact decide_eq_decide.2 ⟨Eq.symm, Eq.symm⟩
      rw [h3]
      have : ([(tm t n, pt t n)] : List (Int × Int)).length = 1 := rfl
      omega
    · rw [snd_no hs]
      rw [show selZ (fun p => souF t L T (p : Int) (n + 1)) P = selZ (fun p => souF t L T (p : Int) n) P from sel_congr P fun p _ => by show (_ || _) = _; rw [decide_eq_false hs]; simp]
      exact ih
theorem mos_ge (t : List (Int × Int)) (L : Int) : ∀ n k, k < n → sndC t L (tm t k) ≤ mosTo t L n
  | n + 1, k, h => by
    show _ ≤ max _ _
    by_cases e : k = n
    · subst e; omega
    · have := mos_ge t L n k (by omega); omega
theorem mos_le (t : List (Int × Int)) (L : Int) : ∀ n, 0 ≤ mosTo t L n ∧ mosTo t L n ≤ (t.length : Int)
  | 0 => by unfold mosTo; omega
  | n + 1 => by
    have ih := mos_le t L n
    have := sndZ_len t L (tm t n) t.length
    show _ ≤ max _ _ ∧ max _ _ ≤ _
    unfold sndC; omega
theorem mos_bd {t : List (Int × Int)} {L : Int} (h : tuneB t = true) (hL : 1 ≤ L ∧ L ≤ 100) : 0 ≤ mosB t L ∧ mosB t L ≤ (t.length : Int) ∧ (mosB t L = 0 ↔ t.length = 0) := by
  rw [mosB_yes h hL]
  obtain ⟨a, b⟩ := mos_le t L t.length
  refine ⟨a, b, fun h0 => ?_, fun h0 => by omega⟩
  by_cases e : t.length = 0
  · exact e
  · have h1 := mos_ge t L t.length 0 (by omega)
    have h2 : (tm t 0, pt t 0) ∈ sndZ t L (tm t 0) t.length := (sndZ_mem _).2 ⟨0, by omega, rfl, by unfold sndP; omega⟩
    have h3 := List.length_pos_of_mem h2
    unfold sndC at h1; omega
theorem on_mem {t : List (Int × Int)} {x : Int} (h : x ∈ onB t) : tuneB t = true ∧ ∃ j, j < t.length ∧ x = tm t j := by
  cases hB : tuneB t
  · rw [onB_no hB] at h; simp at h
  · rw [onB_yes hB] at h; exact ⟨rfl, on_inD _ h⟩
theorem mos_sou {t : List (Int × Int)} {L T : Int} (h : souOk t T L) (hT : hasI (onB t) T = true) : ((souB t T L).length : Int) ≤ mosB t L := by
  rw [mosB_yes h.1 ⟨h.2.2.1, h.2.2.2⟩, souB_yes h]
  obtain ⟨_, j, hj, rfl⟩ := on_mem (has_memD.1 hT)
  have h1 := sou_cnt t L (tm t j) 61 t.length
  have h2 := mos_ge t L t.length j hj
  unfold sndC at h2
  omega
/-- Harsh times. -/
theorem swt_refl (a : Int) : swt a a = true := by
  apply swt_yes
  left
  unfold stpZ stpD; simp
theorem hsF_mem {l : List Int} : hsF l l.length = true ↔ ∃ a, a ∈ l ∧ ∃ b, b ∈ l ∧ swt a b = false := by
  rw [hsF_iff]
  constructor
  · rintro ⟨i, hi, j, hj, h⟩; exact ⟨_, gt_memD hi, _, gt_mem (show j < l.length by omega), h⟩
  · rintro ⟨a, ha, b, hb, h⟩
    obtain ⟨i, hi, rfl⟩ := mem_gt ha
    obtain ⟨j, hj, rfl⟩ := mem_gt hb
    rcases Nat.lt_trichotomy i j with e | e | e
    · exact ⟨j, hj, i, e, by rw [swt_comm]; exact h⟩
    · subst e; rw [swt_refl] at h; cases h
    · exact ⟨i, hi, j, e, h⟩
theorem hrQ_mono {t : List (Int × Int)} {L M x : Int} (h : souOk t x L) (h2 : souOk t x M) (hL : L ≤ M) (hq : hrQ t L x = true) : hrQ t M x = true := by
  unfold hrQ at *
  rw [hsF_mem] at *
  obtain ⟨a, ha, b, hb, e⟩ := hq
  have up : ∀ y, y ∈ souB t x L → y ∈ souB t x M := fun y hy => by
    obtain ⟨k, a1, a2, a3⟩ := (sou_mem h).1 hy
    exact (sou_mem h2).2 ⟨k, a1, a2, snd_mono a3 hL⟩
  exact ⟨a, up a ha, b, up b hb, e⟩
theorem hrZ_mono {t : List (Int × Int)} {L M : Int} {o : List Int} : ∀ n, (∀ k, k < n → hrQ t L (gt o k) = true → hrQ t M (gt o k) = true) → (hrZ t L o n).length ≤ (hrZ t M o n).length
  | 0, _ => Nat.le_refl _
  | n + 1, h => by
    have ih := hrZ_mono n fun k hk => h k (by omega)
    cases hq : hrQ t L (gt o n)
    · rw [hr_no hq]
      cases hm : hrQ t M (gt o n)
      · rw [hr_no hm]; exact ih
      · rw [hr_yes hm, List.length_append]; omega
    · rw [hr_yes hq, hr_yes (h n (by omega) hq), List.length_append, List.length_append]; omega
theorem on_ok {t : List (Int × Int)} (h : tuneB t = true) {L : Int} (hL : 1 ≤ L ∧ L ≤ 100) {k : Nat} (hk : k < (onB t).length) : souOk t (gt (onB t) k) L := by
  obtain ⟨_, j, hj, e⟩ := on_mem (gt_memD hk)
  have := tm_rng h hj
  exact ⟨h, ⟨by omega, by omega⟩, hL.1, hL.2⟩
theorem hr_mono {t : List (Int × Int)} (h : tuneB t = true) {L M : Int} (hL : 1 ≤ L) (hM : M ≤ 100) (hLM : L ≤ M) : (hrB t L).length ≤ (hrB t M).length := by
  rw [hrB_yes ⟨h, hL, by omega⟩, hrB_yes ⟨h, by omega, hM⟩]
  exact hrZ_mono _ fun k hk => hrQ_mono (on_ok h ⟨hL, by omega⟩ hk) (on_ok h ⟨by omega, hM⟩ hk) hLM
theorem hrZ_in {t : List (Int × Int)} {L : Int} {o : List Int} {x : Int} : ∀ n, n ≤ o.length → x ∈ hrZ t L o n → x ∈ o ∧ hrQ t L x = true
  | 0, _, h => by simp [hrZ] at h
  | n + 1, hn, h => by
    cases hq : hrQ t L (gt o n)
    · rw [hr_no hq] at h; exact hrZ_in n (by omega) h
    · rw [hr_yes hq, List.mem_append, List.mem_singleton] at h
      rcases h with h | h
      · exact hrZ_in n (by omega) h
      · subst h; exact ⟨gt_mem (by omega), hq⟩
theorem hr_at {t : List (Int × Int)} (h : tuneB t = true) {L : Int} (hL : 1 ≤ L ∧ L ≤ 100) {k : Nat} (hk : k < (hrB t L).length) :
    hasI (onB t) (gt (hrB t L) k) = true ∧ hsF (souB t (gt (hrB t L) k) L) (souB t (gt (hrB t L) k) L).length = true ∧ 0 ≤ gt (hrB t L) k ∧ gt (hrB t L) k ≤ 1000 := by
  have hm := gt_memD hk
  generalize gt (hrB t L) k = x at *
  rw [hrB_yes ⟨h, hL⟩] at hm
  obtain ⟨a, b⟩ := hrZ_in _ (Nat.le_refl _) hm
  obtain ⟨_, j, hj, e⟩ := on_mem a
  have := tm_rng h hj
  exact ⟨has_memD.2 a, b, by omega, by omega⟩
theorem lc_law {t : List (Int × Int)} (h : tuneB t = true) : ∀ N : Nat, N ≤ 100 → ∀ n : Nat, 1 ≤ n → n ≤ N → (n ≤ lcZ t N ↔ (hrB t (n : Int)).length = 0)
  | 0, _, n, h1, h2 => by omega
  | N + 1, hN, n, h1, h2 => by
    by_cases he : (hrB t ((N : Int) + 1)).length = 0
    · rw [lc_yes he]
      have := hr_mono h (show (1 : Int) ≤ (n : Int) by omega) (show (N : Int) + 1 ≤ 100 by omega) (show (n : Int) ≤ (N : Int) + 1 by omega)
      constructor
      · intro; omega
      · intro; omega
    · rw [lc_no he]
      by_cases e : n = N + 1
      · subst e
        have hb : ∀ N, lcZ t N ≤ N := fun N => by
          induction N with
          | zero => exact Nat.le_refl _
          | succ N ih => unfold lcZ; split <;> omega
        have := hb N
        constructor
        · intro; omega
        · intro hh; exact absurd (by push_cast at hh; exact hh) he
      · exact lc_law h N (by omega) n h1 (by omega)
theorem lc_iff {t : List (Int × Int)} (h : tuneB t = true) {n : Int} (hn : 1 ≤ n ∧ n ≤ 100) : n ≤ lcB t ↔ (hrB t n).length = 0 := by
  rw [lcB_yes h]
  obtain ⟨m, rfl⟩ : ∃ m : Nat, n = (m : Int) := ⟨n.toNat, by omega⟩
  rw [← lc_law h 100 (Nat.le_refl _) m (by omega) (by omega)]
  omega
/-- Dampers. -/
theorem dam_has {t : List (Int × Int)} (h : tuneB t = true) {L : Int} (hL : 1 ≤ L ∧ L ≤ 100) {i k : Nat} (hi : i < t.length) (hk : k < t.length) (hne : k ≠ i) (hp : pt t k = pt t i) (h1 : tm t k - tm t i < L) (h2 : tm t i - tm t k < L) : hasI (damB t L) (pt t i) = true := by
  rw [has_memD, damB_yes ⟨h, hL⟩, selM]
  have hr := pt_rng h hi
  refine ⟨(pt t i).toNat, by omega, by omega, (damF_iff _).2 ?_⟩
  by_cases hlt : i < k
  · exact ⟨k, hk, i, hlt, by omega, by omega, by omega⟩
  · exact ⟨i, hi, k, by omega, by omega, by omega, by omega⟩
theorem dam_one {t : List (Int × Int)} (h : tuneB t = true) : damB t 1 = [] := by
  rw [damB_yes ⟨h, by omega, by omega⟩]
  apply List.eq_nil_of_length_eq_zero
  apply sel_none
  intro p _
  rw [Bool.eq_false_iff]
  intro hq
  obtain ⟨k, hk, i, hi, a, b, c⟩ := (damF_iff _).1 hq
  have h1 := tune_ltD h i (k - i - 1) (by omega)
  rw [show i + (k - i - 1) + 1 = k by omega, ltN_iff] at h1
  change tm t i < tm t k ∨ tm t i = tm t k ∧ pt t i < pt t k at h1
  omega
/-- One note. -/
def oneT : List (Int × Int) := [(3, 9)]
theorem one_ok : tuneB oneT = true := by
  refine decide_eq_true ⟨fun k hk => ?_, by decide⟩
  have : k = 0 := by simp [oneT] at hk; exact hk
  subst this
  exact ⟨by decide, by decide, fun h => absurd h (by decide)⟩
theorem one_four : souB oneT 4 2 = [9] := by
  rw [souB_yes ⟨one_ok, by decide, by decide, by decide⟩]
  decide +kernel
theorem one_five : souB oneT 5 2 = [] := by
  rw [souB_yes ⟨one_ok, by decide, by decide, by decide⟩]
  decide +kernel
theorem one_clean : lcB oneT = 100 := by
  have h0 : (hrB oneT 100).length = 0 := by
    rw [hrB_yes ⟨one_ok, by decide, by decide⟩]
    apply Nat.eq_zero_of_not_pos
    intro hp
    have hm := List.getElem_mem hp
    obtain ⟨a, b⟩ := hrZ_in _ (Nat.le_refl _) hm
    generalize (hrZ oneT 100 (onB oneT) (onB oneT).length)[0] = x at *
    unfold hrQ at b
    rw [hsF_mem] at b
    obtain ⟨u, hu, v, hv, e⟩ := b
    obtain ⟨k, hk, rfl⟩ := mem_gt a
    have ho := on_ok one_ok (L := 100) (by decide) hk
    obtain ⟨i, hi, e1, _⟩ := (sou_mem ho).1 hu
    obtain ⟨j, hj, e2, _⟩ := (sou_mem ho).1 hv
    have hi0 : i = 0 := by simp [oneT] at hi; exact hi
    have hj0 : j = 0 := by simp [oneT] at hj; exact hj
    subst hi0 hj0
    rw [← e1, ← e2, swt_refl] at e
    cases e
  rw [lcB_yes one_ok, lc_yes (n := 99) h0]
  rfl
end Go.Proofs.Ytkbceojeahninaa
