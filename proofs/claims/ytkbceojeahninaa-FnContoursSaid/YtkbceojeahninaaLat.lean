/- Plain laws: a tune is in order; a tune moved later; two tunes joined. -/
import Derived.Test.YtkbceojeahninaaSrt
import Derived.Test.YtkbceojeahninaaSounding
namespace Go.Proofs.Ytkbceojeahninaa
set_option linter.unusedVariables false
def asc (l : List (Int × Int)) : Prop := l.Pairwise (fun x y => ltN x y = true)
theorem tune_step {l : List (Int × Int)} (h : tuneB l = true) {k : Nat} (hk : k + 1 < l.length) : ltN (l.getD k (0, 0)) (l.getD (k + 1) (0, 0)) = true := by
  have h1 := ((of_decide_eq_true h : tuneP l).1 (k + 1) hk).2.2 (by omega)
  exact h1
theorem tune_lt {l : List (Int × Int)} (h : tuneB l = true) (i : Nat) : ∀ d, i + d + 1 < l.length → ltN (l.getD i (0, 0)) (l.getD (i + d + 1) (0, 0)) = true
  | 0, hd => tune_step h hd
  | d + 1, hd => ltN_trans (tune_lt h i d (by omega)) (tune_step h (k := i + d + 1) (by omega))
theorem tune_asc {l : List (Int × Int)} (h : tuneB l = true) : asc l := by
  unfold asc
  rw [List.pairwise_iff_getElem]
  intro i j hi hj hij
  obtain ⟨d, rfl⟩ : ∃ d, j = i + d + 1 := ⟨j - i - 1, by omega⟩
  have := tune_lt h i d hj
  simpa [List.getD, hi, hj] using this
theorem asc_srt {l : List (Int × Int)} (h : asc l) : srt l = l := (srt_srt l).uniq ⟨h, fun _ => Iff.rfl⟩
theorem asc_nodup {l : List (Int × Int)} (h : asc l) : l.Nodup := by
  unfold List.Nodup
  exact h.imp fun hxy => ltN_ne hxy
theorem srt_asc (l : List (Int × Int)) : asc (srt l) := (srt_srt l).1
theorem srt_mem (l : List (Int × Int)) (x : Int × Int) : x ∈ srt l ↔ x ∈ l := (srt_srt l).2 x
/-- Two lists with the same notes are sorted alike. -/
theorem srt_same {l m : List (Int × Int)} (h : ∀ x, x ∈ l ↔ x ∈ m) : srt l = srt m := (srt_srt l).uniq ⟨srt_asc m, fun x => (srt_mem m x).trans (h x).symm⟩
theorem srt_nodup_len {l : List (Int × Int)} (h : l.Nodup) : (srt l).length = l.length :=
  ((List.perm_ext_iff_of_nodup (asc_nodup (srt_asc l)) h).2 (srt_mem l)).length_eq
/-- A list in order of good notes is a tune, if it is short. -/
theorem asc_tune {l : List (Int × Int)} (h : asc l) (hr : ∀ x ∈ l, (0 ≤ x.1 ∧ x.1 ≤ 1000) ∧ (0 ≤ x.2 ∧ x.2 ≤ 60)) : tuneB l = decide (l.length ≤ 40) := by
  refine tuneB_all fun k hk => ?_
  have hx := hr l[k] (List.getElem_mem hk)
  have e1 : tm l k = l[k].1 := by simp [tm, List.getD, hk]
  have e2 : pt l k = l[k].2 := by simp [pt, List.getD, hk]
  refine ⟨by rw [e1]; exact hx.1, by rw [e2]; exact hx.2, fun h0 => ?_⟩
  unfold asc at h
  rw [List.pairwise_iff_getElem] at h
  have h1 := h (k - 1) k (by omega) hk (by omega)
  have hk' : k - 1 < l.length := by omega
  unfold lessAt
  have e3 : tm l (k - 1) = l[k - 1].1 := by simp [tm, List.getD, hk']
  have e4 : pt l (k - 1) = l[k - 1].2 := by simp [pt, List.getD, hk']
  rw [e1, e2, e3, e4]
  exact h1
theorem tune_mem {l : List (Int × Int)} (h : tuneB l = true) {x : Int × Int} (hx : x ∈ l) : (0 ≤ x.1 ∧ x.1 ≤ 1000) ∧ (0 ≤ x.2 ∧ x.2 ≤ 60) := by
  obtain ⟨k, hk, rfl⟩ := List.getElem_of_mem hx
  have h1 := tm_rng h hk
  have h2 := pt_rng h hk
  have e1 : tm l k = l[k].1 := by simp [tm, List.getD, hk]
  have e2 : pt l k = l[k].2 := by simp [pt, List.getD, hk]
  rw [e1] at h1; rw [e2] at h2
  exact ⟨h1, h2⟩
/-- A tune moved later. -/
def latTo (l : List (Int × Int)) (b : Int) : Nat → List (Int × Int)
  | 0 => []
  | k + 1 => latTo l b k ++ [(tm l k + b, pt l k)]
theorem latTo_len (l : List (Int × Int)) (b : Int) : ∀ k, (latTo l b k).length = k
  | 0 => rfl
  | k + 1 => by rw [latTo, List.length_append, latTo_len l b k]; rfl
theorem latTo_succ (l : List (Int × Int)) (b : Int) (k : Nat) : latTo l b (k + 1) = latTo l b k ++ [(tm l k + b, pt l k)] := rfl
theorem latTo_map (l : List (Int × Int)) (b : Int) : ∀ k, k ≤ l.length → latTo l b k = (l.take k).map fun x => (x.1 + b, x.2)
  | 0, _ => rfl
  | k + 1, h => by
    have hk : k < l.length := by omega
    rw [latTo, latTo_map l b k (by omega), List.take_succ_eq_append_getElem hk, List.map_append]
    simp [tm, pt, List.getD, hk]
def latL (l : List (Int × Int)) (b : Int) : List (Int × Int) := latTo l b l.length
theorem latL_len (l : List (Int × Int)) (b : Int) : (latL l b).length = l.length := latTo_len l b l.length
theorem latL_map (l : List (Int × Int)) (b : Int) : latL l b = l.map fun x => (x.1 + b, x.2) := by
  unfold latL; rw [latTo_map l b l.length (Nat.le_refl _), List.take_length]
theorem latL_srt {l : List (Int × Int)} (b : Int) (h : tuneB l = true) : srt (latL l b) = latL l b := by
  refine asc_srt ?_
  rw [latL_map]
  unfold asc
  rw [List.pairwise_map]
  refine (tune_asc h).imp fun hxy => ?_
  rw [ltN_iff] at hxy ⊢
  simp; omega
noncomputable def latB (l : List (Int × Int)) (b : Int) : Bool := decide (tuneB l = true ∧ (-1000 ≤ b ∧ b ≤ 1000) ∧ tuneB (latL l b) = true)
noncomputable def latR (l : List (Int × Int)) (b : Int) : List (Int × Int) := if latB l b = true then latL l b else l
theorem latR_len (l : List (Int × Int)) (b : Int) : (latR l b).length = l.length := by
  unfold latR; split
  · exact latL_len l b
  · rfl
theorem lat_no {l : List (Int × Int)} {b : Int} (h : ¬ (tuneB l = true ∧ (-1000 ≤ b ∧ b ≤ 1000) ∧ tuneB (latL l b) = true)) : latB l b = false ∧ latR l b = l := by
  have h1 : latB l b = false := decide_eq_false h
  exact ⟨h1, by unfold latR; rw [h1]; rfl⟩
theorem lat_yes {l : List (Int × Int)} {b : Int} (h : tuneB l = true ∧ (-1000 ≤ b ∧ b ≤ 1000) ∧ tuneB (latL l b) = true) : latB l b = true ∧ latR l b = latL l b := by
  have h1 : latB l b = true := decide_eq_true h
  exact ⟨h1, by unfold latR; rw [h1]; rfl⟩
/-- Two tunes joined. -/
def joiZ (a b : List (Int × Int)) : List (Int × Int) := srt (a ++ b)
noncomputable def joiB (a b : List (Int × Int)) : Bool := decide (tuneB a = true ∧ tuneB b = true ∧ (joiZ a b).length ≤ 40)
noncomputable def joiR (a b : List (Int × Int)) : List (Int × Int) := if joiB a b = true then joiZ a b else []
theorem joi_no {a b : List (Int × Int)} (h : ¬ (tuneB a = true ∧ tuneB b = true ∧ (joiZ a b).length ≤ 40)) : joiB a b = false ∧ joiR a b = [] := by
  have h1 : joiB a b = false := decide_eq_false h
  exact ⟨h1, by unfold joiR; rw [h1]; rfl⟩
theorem joi_yes {a b : List (Int × Int)} (h : tuneB a = true ∧ tuneB b = true ∧ (joiZ a b).length ≤ 40) : joiB a b = true ∧ joiR a b = joiZ a b := by
  have h1 : joiB a b = true := decide_eq_true h
  exact ⟨h1, by unfold joiR; rw [h1]; rfl⟩
theorem joiR_len (a b : List (Int × Int)) : (joiR a b).length ≤ 40 := by
  unfold joiR
  split
  · rename_i h; exact (of_decide_eq_true h).2.2
  · simp
theorem joi_tune {a b : List (Int × Int)} (ha : tuneB a = true) (hb : tuneB b = true) : tuneB (joiZ a b) = decide ((joiZ a b).length ≤ 40) := by
  refine asc_tune (srt_asc _) fun x hx => ?_
  unfold joiZ at hx
  rw [srt_mem, List.mem_append] at hx
  rcases hx with hx | hx
  · exact tune_mem ha hx
  · exact tune_mem hb hx
/-- a and the notes of b up to k that are not in a. -/
def jonTo (a b : List (Int × Int)) : Nat → List (Int × Int)
  | 0 => a
  | k + 1 => if (tm b k, pt b k) ∈ a then jonTo a b k else jonTo a b k ++ [(tm b k, pt b k)]
theorem jonTo_len (a b : List (Int × Int)) : ∀ k, (jonTo a b k).length ≤ a.length + k
  | 0 => by simp [jonTo]
  | k + 1 => by
    have := jonTo_len a b k
    unfold jonTo
    split
    · omega
    · rw [List.length_append]; simp; omega
theorem jonTo_yes {a b : List (Int × Int)} {k : Nat} (h : (tm b k, pt b k) ∈ a) : jonTo a b (k + 1) = jonTo a b k := if_pos h
theorem jonTo_no {a b : List (Int × Int)} {k : Nat} (h : ¬ (tm b k, pt b k) ∈ a) : jonTo a b (k + 1) = jonTo a b k ++ [(tm b k, pt b k)] := if_neg h
theorem jonTo_mem {a b : List (Int × Int)} (x : Int × Int) : ∀ k, k ≤ b.length → (x ∈ jonTo a b k ↔ x ∈ a ∨ x ∈ b.take k)
  | 0, _ => by simp [jonTo]
  | k + 1, h => by
    have hk : k < b.length := by omega
    have ih := jonTo_mem (a := a) (b := b) x k (by omega)
    have e : (tm b k, pt b k) = b[k] := by simp [tm, pt, List.getD, hk]
    rw [List.take_succ_eq_append_getElem hk, List.mem_append, List.mem_singleton]
    by_cases hm : (tm b k, pt b k) ∈ a
    · rw [jonTo_yes hm, ih]
      rw [e] at hm
      constructor
      · rintro (h | h)
        · exact Or.inl h
        · exact Or.inr (Or.inl h)
      · rintro (h | h | h)
        · exact Or.inl h
        · exact Or.inr h
        · exact Or.inl (h ▸ hm)
    · rw [jonTo_no hm, List.mem_append, ih, List.mem_singleton, e, or_assoc]
theorem jonTo_nodup {a b : List (Int × Int)} (ha : a.Nodup) (hb : b.Nodup) : ∀ k, k ≤ b.length → (jonTo a b k).Nodup
  | 0, _ => ha
  | k + 1, h => by
    have hk : k < b.length := by omega
    have ih := jonTo_nodup ha hb k (by omega)
    have e : (tm b k, pt b k) = b[k] := by simp [tm, pt, List.getD, hk]
    by_cases hm : (tm b k, pt b k) ∈ a
    · rw [jonTo_yes hm]; exact ih
    · rw [jonTo_no hm]
      rw [List.nodup_append]
      refine ⟨ih, by simp, fun x hx y hy => ?_⟩
      rw [List.mem_singleton] at hy
      subst hy
      rintro rfl
      rw [jonTo_mem _ k (by omega)] at hx
      rcases hx with hx | hx
      · exact hm hx
      · obtain ⟨i, hi, hie⟩ := List.getElem_of_mem hx
        rw [List.getElem_take, e] at hie
        have hi' : i < k := by simp at hi; omega
        unfold List.Nodup at hb
        rw [List.pairwise_iff_getElem] at hb
        exact hb i k (by omega) hk hi' hie
theorem joi_srt (a b : List (Int × Int)) : srt (jonTo a b b.length) = joiZ a b := srt_same fun x => by rw [jonTo_mem x b.length (Nat.le_refl _), List.take_length, List.mem_append]
theorem joi_len {a b : List (Int × Int)} (ha : tuneB a = true) (hb : tuneB b = true) : (jonTo a b b.length).length = (joiZ a b).length := by
  rw [← joi_srt, srt_nodup_len (jonTo_nodup (asc_nodup (tune_asc ha)) (asc_nodup (tune_asc hb)) b.length (Nat.le_refl _))]
end Go.Proofs.Ytkbceojeahninaa
