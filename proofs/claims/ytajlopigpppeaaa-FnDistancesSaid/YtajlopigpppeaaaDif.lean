/- Plain laws: the notes at a time; the times of a list; the times at which two tunes differ. -/
import Derived.Test.YtajlopigpppeaaaLat
import Derived.Test.YtajlopigpppeaaaTimes
namespace Go.Proofs.Ytajlopigpppeaaa
set_option linter.unusedVariables false
/-- Whether a number is in a list. -/
def meB (l : List Int) (n : Int) : Bool := decide (∃ i, i < l.length ∧ gt l i = n)
theorem me_yes {l : List Int} {n : Int} {i : Nat} (hi : i < l.length) (h : gt l i = n) : meB l n = true := decide_eq_true ⟨i, hi, h⟩
theorem me_no {l : List Int} {n : Int} (h : ∀ i, i < l.length → gt l i ≠ n) : meB l n = false := decide_eq_false fun ⟨i, hi, he⟩ => h i hi he
theorem me_iff {l : List Int} {n : Int} : meB l n = true ↔ n ∈ l := by
  unfold meB
  rw [decide_eq_true_iff]
  constructor
  · rintro ⟨i, hi, h⟩
    have : gt l i = l[i] := by simp [gt, hi]
    rw [← h, this]; exact List.getElem_mem hi
  · intro h
    obtain ⟨i, hi, h⟩ := List.getElem_of_mem h
    exact ⟨i, hi, by simp [gt, hi, h]⟩
def natTo (l : List (Int × Int)) (t : Int) : Nat → List Int
  | 0 => []
  | k + 1 => if tm l k = t then natTo l t k ++ [pt l k] else natTo l t k
theorem nat_yes {l : List (Int × Int)} {t : Int} {k : Nat} (h : tm l k = t) : natTo l t (k + 1) = natTo l t k ++ [pt l k] := if_pos h
theorem nat_no {l : List (Int × Int)} {t : Int} {k : Nat} (h : ¬ tm l k = t) : natTo l t (k + 1) = natTo l t k := if_neg h
theorem natTo_len (l : List (Int × Int)) (t : Int) : ∀ k, (natTo l t k).length ≤ k
  | 0 => Nat.le_refl _
  | k + 1 => by have := natTo_len l t k; unfold natTo; split <;> simp <;> omega
theorem natTo_none {l : List (Int × Int)} {t : Int} : ∀ k, (∀ j, j < k → ¬ tm l j = t) → natTo l t k = []
  | 0, _ => rfl
  | k + 1, h => by rw [nat_no (h k (by omega))]; exact natTo_none k fun j hj => h j (by omega)
noncomputable def natB (l : List (Int × Int)) (t : Int) : List Int := if tuneB l = true then natTo l t l.length else []
theorem natB_yes {l : List (Int × Int)} {t : Int} (h : tuneB l = true) : natB l t = natTo l t l.length := if_pos h
theorem natB_no {l : List (Int × Int)} {t : Int} (h : tuneB l = false) : natB l t = [] := by unfold natB; rw [h]; rfl
theorem natB_len (l : List (Int × Int)) (t : Int) : (natB l t).length ≤ 40 := by
  cases h : tuneB l
  · rw [natB_no h]; simp
  · have h1 := (of_decide_eq_true h : tuneP l).2
    have := natTo_len l t l.length
    rw [natB_yes h]; omega
/-- The times of a list, each once. -/
def tmsTo (L : List (Int × Int)) : Nat → List Int
  | 0 => []
  | k + 1 => if meB (tmsTo L k) (tm L k) = true then tmsTo L k else tmsTo L k ++ [tm L k]
theorem tms_yes {L : List (Int × Int)} {k : Nat} (h : meB (tmsTo L k) (tm L k) = true) : tmsTo L (k + 1) = tmsTo L k := if_pos h
theorem tms_no {L : List (Int × Int)} {k : Nat} (h : meB (tmsTo L k) (tm L k) = false) : tmsTo L (k + 1) = tmsTo L k ++ [tm L k] := if_neg (by rw [h]; simp)
theorem tmsTo_len (L : List (Int × Int)) : ∀ k, (tmsTo L k).length ≤ k
  | 0 => Nat.le_refl _
  | k + 1 => by have := tmsTo_len L k; unfold tmsTo; split <;> simp <;> omega
def tmsL (l : List (Int × Int)) : List Int := tmsTo (srt l) (srt l).length
theorem tmsL_len (l : List (Int × Int)) : (tmsL l).length ≤ l.length := by
  have h1 := tmsTo_len (srt l) (srt l).length
  have h2 := srtTo_len l l.length
  unfold tmsL; unfold srt at h1 ⊢; omega
theorem tmsTo_mem {L : List (Int × Int)} (t : Int) : ∀ k, k ≤ L.length → (t ∈ tmsTo L k ↔ ∃ j, j < k ∧ tm L j = t)
  | 0, _ => by simp [tmsTo]
  | k + 1, h0 => by
    have ih := tmsTo_mem (L := L) t k (by omega)
    cases hm : meB (tmsTo L k) (tm L k)
    · rw [tms_no hm, List.mem_append, ih, List.mem_singleton]
      constructor
      · rintro (⟨j, hj, h⟩ | h)
        · exact ⟨j, by omega, h⟩
        · exact ⟨k, by omega, h.symm⟩
      · rintro ⟨j, hj, h⟩
        by_cases e : j = k
        · subst e; exact Or.inr h.symm
        · exact Or.inl ⟨j, by omega, h⟩
    · rw [tms_yes hm, ih]
      constructor
      · rintro ⟨j, hj, h⟩; exact ⟨j, by omega, h⟩
      · rintro ⟨j, hj, h⟩
        by_cases e : j = k
        · subst e; rw [← h]
          have := (tmsTo_mem (L := L) (tm L j) j (by omega)).1 (me_iff.1 hm)
          exact this
        · exact ⟨j, by omega, h⟩
theorem tmsTo_asc {L : List (Int × Int)} (hs : asc L) : ∀ k, k ≤ L.length → (tmsTo L k).Pairwise (· < ·)
  | 0, _ => List.Pairwise.nil
  | k + 1, h => by
    have ih := tmsTo_asc hs k (by omega)
    cases hm : meB (tmsTo L k) (tm L k)
    · rw [tms_no hm, List.pairwise_append]
      refine ⟨ih, by simp, fun x hx y hy => ?_⟩
      rw [List.mem_singleton] at hy
      subst hy
      obtain ⟨j, hj, rfl⟩ := (tmsTo_mem x k (by omega)).1 hx
      have hne : tm L j ≠ tm L k := fun e => by
        have : tm L k ∈ tmsTo L k := e ▸ hx
        rw [me_iff.2 this] at hm; cases hm
      unfold asc at hs
      rw [List.pairwise_iff_getElem] at hs
      have h1 := hs j k (by omega) (by omega) hj
      rw [ltN_iff] at h1
      have e1 : tm L j = L[j].1 := by simp [tm, List.getD, show j < L.length by omega]
      have e2 : tm L k = L[k].1 := by simp [tm, List.getD, show k < L.length by omega]
      rw [e1, e2] at hne ⊢
      omega
    · rw [tms_yes hm]; exact ih
theorem tmsL_mem {l : List (Int × Int)} (t : Int) : t ∈ tmsL l ↔ ∃ x ∈ l, x.1 = t := by
  unfold tmsL
  rw [tmsTo_mem t _ (Nat.le_refl _)]
  constructor
  · rintro ⟨j, hj, h⟩
    exact ⟨(srt l)[j], (srt_mem l _).1 (List.getElem_mem hj), by rw [← h]; simp [tm, List.getD, hj]⟩
  · rintro ⟨x, hx, h⟩
    obtain ⟨j, hj, e⟩ := List.getElem_of_mem ((srt_mem l x).2 hx)
    exact ⟨j, hj, by rw [← h, ← e]; simp [tm, List.getD, hj]⟩
theorem tmsL_asc (l : List (Int × Int)) : (tmsL l).Pairwise (· < ·) := tmsTo_asc (srt_asc l) _ (Nat.le_refl _)
/-- Two ascending lists with the same members are the same. -/
theorem asc_uniq {S T : List Int} (h1 : S.Pairwise (· < ·)) (h2 : T.Pairwise (· < ·)) (h : ∀ x, x ∈ S ↔ x ∈ T) : S = T := by
  have hp : ∀ {L : List Int}, L.Pairwise (· < ·) → (L.map fun x => (x, (0 : Int))).Pairwise (fun x y => ltN x y = true) := fun {L} hL => by
    rw [List.pairwise_map]
    exact hL.imp fun hxy => by rw [ltN_iff]; exact Or.inl hxy
  have := srt_uniq0 (S.map fun x => (x, (0 : Int))) (T.map fun x => (x, (0 : Int))) (hp h1) (hp h2) (fun x => by
    simp only [List.mem_map]
    exact ⟨fun ⟨a, ha, e⟩ => ⟨a, (h a).1 ha, e⟩, fun ⟨a, ha, e⟩ => ⟨a, (h a).2 ha, e⟩⟩)
  have e2 := congrArg (List.map Prod.fst) this
  simpa [List.map_map, Function.comp_def] using e2
/-- Times of a list at which two tunes differ. -/
noncomputable def difTo (a b : List (Int × Int)) (f : Nat → Int) : Nat → List Int
  | 0 => []
  | k + 1 => if natB a (f k) = natB b (f k) then difTo a b f k else difTo a b f k ++ [f k]
theorem dif_yes {a b : List (Int × Int)} {f : Nat → Int} {k : Nat} (h : natB a (f k) = natB b (f k)) : difTo a b f (k + 1) = difTo a b f k := if_pos h
theorem dif_no {a b : List (Int × Int)} {f : Nat → Int} {k : Nat} (h : ¬ natB a (f k) = natB b (f k)) : difTo a b f (k + 1) = difTo a b f k ++ [f k] := if_neg h
theorem difTo_len (a b : List (Int × Int)) (f : Nat → Int) : ∀ k, (difTo a b f k).length ≤ k
  | 0 => Nat.le_refl _
  | k + 1 => by have := difTo_len a b f k; unfold difTo; split <;> simp <;> omega
theorem difTo_mem {a b : List (Int × Int)} {f : Nat → Int} (t : Int) : ∀ k, t ∈ difTo a b f k ↔ ∃ j, j < k ∧ f j = t ∧ ¬ natB a t = natB b t
  | 0 => by simp [difTo]
  | k + 1 => by
    have ih := difTo_mem (a := a) (b := b) (f := f) t k
    by_cases h : natB a (f k) = natB b (f k)
    · rw [dif_yes h, ih]
      constructor
      · rintro ⟨j, hj, e, hn⟩; exact ⟨j, by omega, e, hn⟩
      · rintro ⟨j, hj, e, hn⟩
        by_cases q : j = k
        · subst q; rw [← e] at hn; exact absurd h hn
        · exact ⟨j, by omega, e, hn⟩
    · rw [dif_no h, List.mem_append, ih, List.mem_singleton]
      constructor
      · rintro (⟨j, hj, e, hn⟩ | e)
        · exact ⟨j, by omega, e, hn⟩
        · exact ⟨k, by omega, e.symm, by rw [e]; exact h⟩
      · rintro ⟨j, hj, e, hn⟩
        by_cases q : j = k
        · subst q; exact Or.inr e.symm
        · exact Or.inl ⟨j, by omega, e, hn⟩
theorem difTo_asc {a b : List (Int × Int)} {f : Nat → Int} {n : Nat} (hf : ∀ i j, i < j → j < n → f i < f j) : ∀ k, k ≤ n → (difTo a b f k).Pairwise (· < ·)
  | 0, _ => List.Pairwise.nil
  | k + 1, hk => by
    have ih := difTo_asc (a := a) (b := b) hf k (by omega)
    by_cases h : natB a (f k) = natB b (f k)
    · rw [dif_yes h]; exact ih
    · rw [dif_no h, List.pairwise_append]
      refine ⟨ih, by simp, fun x hx y hy => ?_⟩
      rw [List.mem_singleton] at hy
      subst hy
      obtain ⟨j, hj, rfl, _⟩ := (difTo_mem x k).1 hx
      exact hf j k hj (by omega)
noncomputable def difZ (a b : List (Int × Int)) : List Int := if tuneB a = true ∧ tuneB b = true then difTo a b (fun k => (k : Int)) 1001 else []
theorem difZ_yes {a b : List (Int × Int)} (h : tuneB a = true ∧ tuneB b = true) : difZ a b = difTo a b (fun k => (k : Int)) 1001 := if_pos h
theorem difZ_no {a b : List (Int × Int)} (h : ¬ (tuneB a = true ∧ tuneB b = true)) : difZ a b = [] := if_neg h
theorem difZ_len (a b : List (Int × Int)) : (difZ a b).length ≤ 1001 := by
  unfold difZ; split
  · exact difTo_len _ _ _ _
  · simp
theorem natB_none {l : List (Int × Int)} {t : Int} (h : ∀ x ∈ l, x.1 ≠ t) : natB l t = [] := by
  cases hB : tuneB l
  · exact natB_no hB
  · rw [natB_yes hB]
    refine natTo_none _ fun j hj e => h l[j] (List.getElem_mem hj) ?_
    rw [← e]; simp [tm, List.getD, hj]
theorem dif_eq {a b : List (Int × Int)} (ha : tuneB a = true) (hb : tuneB b = true) : difTo a b (gt (tmsL (a ++ b))) (tmsL (a ++ b)).length = difZ a b := by
  rw [difZ_yes ⟨ha, hb⟩]
  have hA := tmsL_asc (a ++ b)
  refine asc_uniq (difTo_asc (n := (tmsL (a ++ b)).length) (fun i j hij hj => ?_) _ (Nat.le_refl _)) (difTo_asc (n := 1001) (fun i j hij hj => by omega) _ (Nat.le_refl _)) fun t => ?_
  · rw [List.pairwise_iff_getElem] at hA
    have := hA i j (by omega) hj hij
    simpa [gt, hj, show i < (tmsL (a ++ b)).length by omega] using this
  · rw [difTo_mem, difTo_mem]
    constructor
    · rintro ⟨j, hj, e, hn⟩
      have hm : t ∈ tmsL (a ++ b) := by rw [← e]; simp [gt, hj]
      obtain ⟨x, hx, rfl⟩ := (tmsL_mem t).1 hm
      have hr : 0 ≤ x.1 ∧ x.1 ≤ 1000 := by
        rcases List.mem_append.1 hx with h | h
        · exact (tune_mem ha h).1
        · exact (tune_mem hb h).1
      exact ⟨x.1.toNat, by omega, by omega, hn⟩
    · rintro ⟨j, hj, e, hn⟩
      have hm : t ∈ tmsL (a ++ b) := by
        rw [tmsL_mem]
        refine Classical.byContradiction fun hno => hn ?_
        rw [natB_none (l := a) (fun x hx he => hno ⟨x, List.mem_append.2 (Or.inl hx), he⟩), natB_none (l := b) (fun x hx he => hno ⟨x, List.mem_append.2 (Or.inr hx), he⟩)]
      obtain ⟨i, hi, e2⟩ := List.getElem_of_mem hm
      exact ⟨i, hi, by rw [← e2]; simp [gt, hi], hn⟩
end Go.Proofs.Ytajlopigpppeaaa
