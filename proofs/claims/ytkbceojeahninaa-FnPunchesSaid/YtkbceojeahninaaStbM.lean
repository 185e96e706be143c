/- Plain laws of merging in place: exchange of two ranges, rotation, the two ways of a single number, the cut of a merge. -/
import Derived.Test.YtkbceojeahninaaStbP
namespace Go.Proofs.Ytkbceojeahninaa
set_option linter.unusedVariables false
/-- Two ranges exchanged. -/
def srAt (L : List Int) (a b n t : Nat) : Int := if a ≤ t ∧ t < a + n then gt L (t - a + b) else if b ≤ t ∧ t < b + n then gt L (t - b + a) else gt L t
theorem swz_zero (L : List Int) (a b t : Nat) : srAt L a b 0 t = gt L t := by unfold srAt; rw [if_neg (by omega), if_neg (by omega)]
theorem swz_step {L M : List Int} {a b n : Nat} (hab : a + n < b) (hb : b + n < M.length) (h : ∀ t, gt M t = srAt L a b n t) : ∀ t, gt (swp M (a + n) (b + n)) t = srAt L a b (n + 1) t := by
  intro t
  rw [swp_at (by omega) hb, h, h, h]
  unfold srAt
  by_cases e1 : t = b + n
  · rw [if_pos e1, if_neg (by omega), if_neg (by omega), if_neg (by omega), if_pos (by omega)]; congr 1; omega
  · rw [if_neg e1]
    by_cases e2 : t = a + n
    · rw [if_pos e2, if_neg (by omega), if_neg (by omega), if_pos (by omega)]; congr 1; omega
    · rw [if_neg e2]
      by_cases e3 : a ≤ t ∧ t < a + n
      · rw [if_pos e3, if_pos (by omega)]
      · rw [if_neg e3, if_neg (show ¬ (a ≤ t ∧ t < a + (n + 1)) by omega)]
        by_cases e4 : b ≤ t ∧ t < b + n
        · rw [if_pos e4, if_pos (by omega)]
        · rw [if_neg e4, if_neg (by omega)]
/-- Two neighbouring ranges turned. -/
def rotAt (L : List Int) (a m b t : Nat) : Int := if a ≤ t ∧ t < a + (b - m) then gt L (t + (m - a)) else if a + (b - m) ≤ t ∧ t < b then gt L (t - (b - m)) else gt L t
theorem rot_same {L M : List Int} {m i : Nat} (hi : i ≤ m) (h : ∀ t, gt M t = srAt L (m - i) m i t) : ∀ t, gt M t = rotAt L (m - i) m (m + i) t := by
  intro t
  rw [h]
  unfold srAt rotAt
  by_cases e1 : m - i ≤ t ∧ t < m - i + i
  · rw [if_pos e1, if_pos (by omega)]; congr 1; omega
  · rw [if_neg e1, if_neg (show ¬ (m - i ≤ t ∧ t < m - i + (m + i - m)) by omega)]
    by_cases e2 : m ≤ t ∧ t < m + i
    · rw [if_pos e2, if_pos (by omega)]; congr 1; omega
    · rw [if_neg e2, if_neg (by omega)]
theorem rot_big {L M : List Int} {m i j : Nat} (hi : i ≤ m) (hj : j < i) (h : ∀ t, gt M t = srAt L (m - i) m j t) : ∀ t, rotAt M (m - (i - j)) m (m + j) t = rotAt L (m - i) m (m + j) t := by
  intro t
  unfold rotAt
  rw [h, h, h]
  unfold srAt
  by_cases e1 : m - i ≤ t ∧ t < m - i + j
  · rw [if_neg (by omega), if_neg (by omega), if_pos (by omega), if_pos (by omega)]; congr 1; omega
  · by_cases e2 : m - (i - j) ≤ t ∧ t < m - (i - j) + j
    · rw [if_pos (by omega)]
      by_cases e3 : t < m - i + (m + j - m)
      · omega
      · rw [if_neg (by omega), if_pos (by omega), if_neg (by omega), if_pos (by omega)]; congr 1; omega
    · by_cases e3 : m - (i - j) + j ≤ t ∧ t < m + j
      · rw [if_neg (by omega), if_pos (by omega), if_neg (by omega), if_neg (by omega), if_neg (by omega), if_pos (by omega)]
      · rw [if_neg (by omega), if_neg (by omega), if_neg (by omega), if_neg (by omega), if_neg (by omega), if_neg (by omega)]
theorem rot_small {L M : List Int} {m i j : Nat} (hi : i ≤ m) (hj : i < j) (h : ∀ t, gt M t = srAt L (m - i) (m + j - i) i t) : ∀ t, rotAt M (m - i) m (m + (j - i)) t = rotAt L (m - i) m (m + j) t := by
  intro t
  unfold rotAt
  rw [h, h, h]
  unfold srAt
  by_cases e1 : m - i ≤ t ∧ t < m - i + (j - i)
  · rw [if_pos (by omega), if_neg (by omega), if_neg (by omega), if_pos (by omega)]
  · by_cases e2 : m - i + (j - i) ≤ t ∧ t < m + (j - i)
    · rw [if_neg (by omega), if_pos (by omega), if_pos (by omega), if_pos (by omega)]; congr 1; omega
    · by_cases e3 : m + (j - i) ≤ t ∧ t < m + j
      · rw [if_neg (by omega), if_neg (by omega), if_neg (by omega), if_pos (by omega), if_neg (by omega), if_pos (by omega)]; congr 1; omega
      · rw [if_neg (by omega), if_neg (by omega), if_neg (by omega), if_neg (by omega), if_neg (by omega), if_neg (by omega)]
theorem rot_none {L : List Int} {a m b : Nat} (ha : a ≤ m) (hb : m ≤ b) (h : ¬ (a < m ∧ m < b)) (t : Nat) : gt L t = rotAt L a m b t := by
  unfold rotAt
  by_cases e : a = m
  · subst e
    by_cases e1 : a ≤ t ∧ t < a + (b - a)
    · rw [if_pos e1]; congr 1; omega
    · rw [if_neg e1, if_neg (by omega)]
  · have e2 : b = m := by omega
    subst e2
    rw [if_neg (by omega)]
    by_cases e1 : a + (b - b) ≤ t ∧ t < b
    · rw [if_pos e1]; congr 1; omega
    · rw [if_neg e1]
/-- The numbers on the left are smaller. -/
def LowK (L : List Int) (a m b : Nat) : Prop := ∀ i j, a ≤ i → i < m → m ≤ j → j < b → gt L i < gt L j
theorem ltK_low {K : Int → Int} {x y : Int} (h : x < y) : ltK K x y ↔ ¬ K y < K x := by unfold ltK; omega
theorem ltK_high {K : Int → Int} {x y : Int} (h : x < y) : ltK K y x ↔ K y < K x := by unfold ltK; omega
/-- One number goes right: number a of L stands at k. -/
def ShL (a i : Nat) (L M : List Int) (k : Nat) : Prop := a ≤ k ∧ k < i ∧ (∀ t, t < a ∨ i ≤ t → gt M t = gt L t) ∧ (∀ t, a ≤ t → t < k → gt M t = gt L (t + 1)) ∧ gt M k = gt L a ∧ (∀ t, k < t → t < i → gt M t = gt L t) ∧ Sw a i L M
theorem ShL.start {a i : Nat} (L : List Int) (h : a < i) : ShL a i L L a := ⟨Nat.le_refl _, h, fun _ _ => rfl, fun t h1 h2 => by omega, rfl, fun _ _ _ => rfl, Sw.refl _ _ _⟩
theorem ShL.step {a i k : Nat} {L M : List Int} (h : ShL a i L M k) (hl : i ≤ L.length) (hk : k + 1 < i) : ShL a i L (swp M k (k + 1)) (k + 1) := by
  obtain ⟨h1, h2, h3, h4, h5, h6, h7⟩ := h
  have hlen := h7.1
  have E := fun t => swp_at (L := M) (i := k) (j := k + 1) (by omega) (by omega) t
  refine ⟨by omega, hk, fun t ht => ?_, fun t t1 t2 => ?_, ?_, fun t t1 t2 => ?_, h7.trans (Sw.swap (by omega) h1 (by omega) (by omega) hk)⟩
  · rw [E, if_neg (by omega), if_neg (by omega)]; exact h3 t ht
  · rw [E, if_neg (by omega)]
    by_cases e : t = k
    · subst e; rw [if_pos rfl]; exact h6 (t + 1) (by omega) hk
    · rw [if_neg e]; exact h4 t t1 (by omega)
  · rw [E, if_pos rfl]; exact h5
  · rw [E, if_neg (by omega), if_neg (by omega)]; exact h6 t (by omega) t2
theorem ShL.done {K : Int → Int} {a i b : Nat} {L M : List Int} (h : ShL a i L M (i - 1)) (hi : i ≤ b) (hs : SrtK K L (a + 1) b) (hlow : ∀ t, a < t → t < b → gt L a < gt L t) (h1 : ∀ t, a < t → t < i → K (gt L t) < K (gt L a)) (h2 : ∀ t, i ≤ t → t < b → ¬ K (gt L t) < K (gt L a)) : SrtK K M a b := by
  obtain ⟨q1, q2, q3, q4, q5, q6, _⟩ := h
  intro u v u1 uv v2
  by_cases e1 : v < i - 1
  · rw [q4 u u1 (by omega), q4 v (by omega) e1]; exact hs _ _ (by omega) (by omega) (by omega)
  · by_cases e2 : v = i - 1
    · subst e2
      rw [q5, q4 u u1 uv]
      exact Or.inl (h1 _ (by omega) (by omega))
    · rw [q3 v (by omega)]
      by_cases e3 : u < i - 1
      · rw [q4 u u1 e3]; exact hs _ _ (by omega) (by omega) (by omega)
      · by_cases e4 : u = i - 1
        · subst e4
          rw [q5]
          exact (ltK_low (hlow v (by omega) v2)).2 (h2 v (by omega) v2)
        · rw [q3 u (by omega)]; exact hs u v (by omega) uv v2
/-- One number goes left: number m of L stands at k. -/
def ShR (i m : Nat) (L M : List Int) (k : Nat) : Prop := i ≤ k ∧ k ≤ m ∧ (∀ t, t < i ∨ m < t → gt M t = gt L t) ∧ (∀ t, k < t → t ≤ m → gt M t = gt L (t - 1)) ∧ gt M k = gt L m ∧ (∀ t, i ≤ t → t < k → gt M t = gt L t) ∧ Sw i (m + 1) L M
theorem ShR.start {i m : Nat} (L : List Int) (h : i ≤ m) : ShR i m L L m := ⟨h, Nat.le_refl _, fun _ _ => rfl, fun t h1 h2 => by omega, rfl, fun _ _ _ => rfl, Sw.refl _ _ _⟩
theorem ShR.step {i m k : Nat} {L M : List Int} (h : ShR i m L M k) (hl : m < L.length) (hk : i < k) : ShR i m L (swp M k (k - 1)) (k - 1) := by
  obtain ⟨h1, h2, h3, h4, h5, h6, h7⟩ := h
  have hlen := h7.1
  have E := fun t => swp_at (L := M) (i := k) (j := k - 1) (by omega) (by omega) t
  refine ⟨by omega, by omega, fun t ht => ?_, fun t t1 t2 => ?_, ?_, fun t t1 t2 => ?_, h7.trans (Sw.swap (by omega) h1 (by omega) (by omega) (by omega))⟩
  · rw [E, if_neg (by omega), if_neg (by omega)]; exact h3 t ht
  · rw [E, if_neg (by omega)]
    by_cases e : t = k
    · subst e; rw [if_pos rfl]; exact h6 (t - 1) (by omega) (by omega)
    · rw [if_neg e]; exact h4 t (by omega) t2
  · rw [E, if_pos rfl]; exact h5
  · rw [E, if_neg (by omega), if_neg (by omega)]; exact h6 t t1 (by omega)
theorem ShR.done {K : Int → Int} {a i m : Nat} {L M : List Int} (h : ShR i m L M i) (hi : a ≤ i) (hs : SrtK K L a m) (hlow : ∀ t, a ≤ t → t < m → gt L t < gt L m) (h1 : ∀ t, a ≤ t → t < i → ¬ K (gt L m) < K (gt L t)) (h2 : ∀ t, i ≤ t → t < m → K (gt L m) < K (gt L t)) : SrtK K M a (m + 1) := by
  obtain ⟨q1, q2, q3, q4, q5, q6, _⟩ := h
  intro u v u1 uv v2
  by_cases e1 : v < i
  · rw [q3 u (by omega), q3 v (by omega)]; exact hs u v u1 uv (by omega)
  · by_cases e2 : v = i
    · subst e2
      rw [q5, q3 u (by omega)]
      exact (ltK_low (hlow u u1 (by omega))).2 (h1 u u1 uv)
    · rw [q4 v (by omega) (by omega)]
      by_cases e3 : u < i
      · rw [q3 u (by omega)]; exact hs _ _ u1 (by omega) (by omega)
      · by_cases e4 : u = i
        · subst e4
          rw [q5]
          exact Or.inl (h2 _ (by omega) (by omega))
        · rw [q4 u (by omega) (by omega)]; exact hs _ _ (by omega) (by omega) (by omega)
/-- The key does not fall along a row in order. -/
theorem SrtK.le {K : Int → Int} {L : List Int} {a b i j : Nat} (h : SrtK K L a b) (h1 : a ≤ i) (h2 : i ≤ j) (h3 : j < b) : K (gt L i) ≤ K (gt L j) := by
  by_cases e : i = j
  · subst e; omega
  · have := h i j h1 (by omega) h3
    unfold ltK at this; omega
/-- What a merge knows behind its rotation. -/
def CutK (K : Int → Int) (R : List Int) (a s mid en b : Nat) : Prop :=
  SrtK K R a s ∧ SrtK K R s mid ∧ LowK R a s mid ∧ SrtK K R mid en ∧ SrtK K R en b ∧ LowK R mid en b ∧ ∀ u v, a ≤ u → u < mid → mid ≤ v → v < b → ltK K (gt R u) (gt R v)
theorem cut_of {K : Int → Int} {L R : List Int} {a s m mid en b : Nat} (hs1 : a ≤ s) (hs2 : s ≤ m) (he1 : m ≤ en) (he2 : en ≤ b) (hn : s + en = mid + m) (hl : SrtK K L a m) (hr : SrtK K L m b) (hlow : LowK L a m b)
    (h1 : a < s → en < b → ltK K (gt L (s - 1)) (gt L en)) (h2 : s < m → m < en → ltK K (gt L (en - 1)) (gt L s)) (hR : ∀ t, gt R t = rotAt L s m en t) : CutK K R a s mid en b := by
  have R1 : ∀ t, t < s → gt R t = gt L t := fun t ht => by rw [hR]; unfold rotAt; rw [if_neg (by omega), if_neg (by omega)]
  have R2 : ∀ t, s ≤ t → t < mid → gt R t = gt L (t + (m - s)) := fun t t1 t2 => by rw [hR]; unfold rotAt; rw [if_pos (by omega)]
  have R3 : ∀ t, mid ≤ t → t < en → gt R t = gt L (t - (en - m)) := fun t t1 t2 => by rw [hR]; unfold rotAt; rw [if_neg (by omega), if_pos (by omega)]
  have R4 : ∀ t, en ≤ t → gt R t = gt L t := fun t ht => by rw [hR]; unfold rotAt; rw [if_neg (by omega), if_neg (by omega)]
  have X1 : ∀ u v, a ≤ u → u < s → en ≤ v → v < b → ltK K (gt L u) (gt L v) := fun u v u1 u2 v1 v2 => by
    have h := h1 (by omega) (by omega)
    have q1 : ltK K (gt L u) (gt L en) := by
      by_cases e : u = s - 1
      · subst e; exact h
      · exact (hl u (s - 1) u1 (by omega) (by omega)).trans h
    by_cases e : v = en
    · subst e; exact q1
    · exact q1.trans (hr en v (by omega) (by omega) v2)
  have X2 : ∀ u v, m ≤ u → u < en → s ≤ v → v < m → ltK K (gt L u) (gt L v) := fun u v u1 u2 v1 v2 => by
    have h := h2 (by omega) (by omega)
    have q1 : ltK K (gt L u) (gt L s) := by
      by_cases e : u = en - 1
      · subst e; exact h
      · exact (hr u (en - 1) u1 (by omega) (by omega)).trans h
    by_cases e : v = s
    · subst e; exact q1
    · exact q1.trans (hl s v (by omega) (by omega) v2)
  refine ⟨fun i j i1 ij j2 => by rw [R1 i (by omega), R1 j j2]; exact hl i j i1 ij (by omega), ?_, ?_, ?_, ?_, ?_⟩
  · intro i j i1 ij j2
    rw [R2 i i1 (by omega), R2 j (by omega) j2]; exact hr _ _ (by omega) (by omega) (by omega)
  · intro i j i1 i2 j1 j2
    rw [R1 i i2, R2 j j1 j2]; exact hlow _ _ i1 (by omega) (by omega) (by omega)
  · intro i j i1 ij j2
    rw [R3 i i1 (by omega), R3 j (by omega) j2]; exact hl _ _ (by omega) (by omega) (by omega)
  · intro i j i1 ij j2
    rw [R4 i i1, R4 j (by omega)]; exact hr _ _ (by omega) ij j2
  · refine ⟨?_, ?_⟩
    · intro i j i1 i2 j1 j2
      rw [R3 i i1 i2, R4 j j1]; exact hlow _ _ (by omega) (by omega) (by omega) j2
    · intro u v u1 u2 v1 v2
      by_cases eu : u < s
      · rw [R1 u eu]
        by_cases ev : v < en
        · rw [R3 v v1 ev]; exact hl _ _ u1 (by omega) (by omega)
        · rw [R4 v (by omega)]; exact X1 u v u1 eu (by omega) v2
      · rw [R2 u (by omega) u2]
        by_cases ev : v < en
        · rw [R3 v v1 ev]; exact X2 _ _ (by omega) (by omega) (by omega) (by omega)
        · rw [R4 v (by omega)]; exact hr _ _ (by omega) (by omega) v2
theorem cut_end {K : Int → Int} {R M1 M2 : List Int} {a s mid en b : Nat} (ha : a ≤ mid) (hb : mid ≤ b) (h : CutK K R a s mid en b) (w1 : Sw a mid R M1) (s1 : SrtK K M1 a mid) (w2 : Sw mid b M1 M2) (s2 : SrtK K M2 mid b) : Sw a b R M2 ∧ SrtK K M2 a b := by
  refine ⟨(w1.mono (Nat.le_refl _) hb).trans (w2.mono ha (Nat.le_refl _)), fun u v u1 uv v2 => ?_⟩
  by_cases ev : v < mid
  · rw [w2.2.1 u (by omega), w2.2.1 v (by omega)]; exact s1 u v u1 uv ev
  · by_cases eu : u < mid
    · rw [w2.2.1 u (by omega)]
      obtain ⟨p, p1, p2, e1⟩ := w1.2.2.1 u u1 eu
      obtain ⟨q, q1, q2, e2⟩ := w2.2.2.1 v (by omega) v2
      rw [e1, e2, w1.2.1 q (by omega)]
      exact h.2.2.2.2.2.2 p q p1 p2 q1 q2
    · exact s2 u v (by omega) uv v2
end Go.Proofs.Ytkbceojeahninaa
