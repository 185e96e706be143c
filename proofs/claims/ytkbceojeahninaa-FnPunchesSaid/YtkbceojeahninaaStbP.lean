/- Plain laws of a stable sort in place: exchanges within a range, order by a key and then by the number itself, insertion. -/
import Derived.Test.YtkbceojeahninaaBase
namespace Go.Proofs.Ytkbceojeahninaa
set_option linter.unusedVariables false
/-- Two places exchanged. -/
def swp (L : List Int) (i j : Nat) : List Int := (L.set i (gt L j)).set j (gt L i)
theorem swp_len (L : List Int) (i j : Nat) : (swp L i j).length = L.length := by simp [swp]
theorem gt_setS (L : List Int) (i t : Nat) (x : Int) (hi : i < L.length) : gt (L.set i x) t = if t = i then x else gt L t := by
  unfold gt
  rw [List.getD_eq_getElem?_getD, List.getD_eq_getElem?_getD]
  by_cases h : t = i
  · subst h; rw [List.getElem?_set_self hi, if_pos rfl]; rfl
  · rw [List.getElem?_set_ne (Ne.symm h), if_neg h]
theorem swp_at {L : List Int} {i j : Nat} (hi : i < L.length) (hj : j < L.length) (t : Nat) : gt (swp L i j) t = if t = j then gt L i else if t = i then gt L j else gt L t := by
  unfold swp
  rw [gt_setS _ _ _ _ (by rw [List.length_set]; exact hj), gt_setS _ _ _ _ hi]
/-- M has what L has, and differs within the range only. -/
def Sw (a b : Nat) (L M : List Int) : Prop := M.length = L.length ∧ (∀ t, t < a ∨ b ≤ t → gt M t = gt L t) ∧ (∀ t, a ≤ t → t < b → ∃ u, a ≤ u ∧ u < b ∧ gt M t = gt L u) ∧ (∀ u, a ≤ u → u < b → ∃ t, a ≤ t ∧ t < b ∧ gt M t = gt L u)
theorem Sw.refl (a b : Nat) (L : List Int) : Sw a b L L := ⟨rfl, fun _ _ => rfl, fun t h1 h2 => ⟨t, h1, h2, rfl⟩, fun t h1 h2 => ⟨t, h1, h2, rfl⟩⟩
theorem Sw.trans {a b : Nat} {L M N : List Int} (h : Sw a b L M) (k : Sw a b M N) : Sw a b L N := by
  refine ⟨k.1.trans h.1, fun t ht => (k.2.1 t ht).trans (h.2.1 t ht), fun t h1 h2 => ?_, fun u h1 h2 => ?_⟩
  · obtain ⟨u, u1, u2, e⟩ := k.2.2.1 t h1 h2
    obtain ⟨v, v1, v2, e2⟩ := h.2.2.1 u u1 u2
    exact ⟨v, v1, v2, e.trans e2⟩
  · obtain ⟨v, v1, v2, e⟩ := h.2.2.2 u h1 h2
    obtain ⟨t, t1, t2, e2⟩ := k.2.2.2 v v1 v2
    exact ⟨t, t1, t2, e2.trans e⟩
theorem Sw.mono {a b a' b' : Nat} {L M : List Int} (h : Sw a b L M) (ha : a' ≤ a) (hb : b ≤ b') : Sw a' b' L M := by
  refine ⟨h.1, fun t ht => h.2.1 t (by omega), fun t h1 h2 => ?_, fun t h1 h2 => ?_⟩
  · by_cases e : a ≤ t ∧ t < b
    · obtain ⟨u, u1, u2, e2⟩ := h.2.2.1 t e.1 e.2
      exact ⟨u, by omega, by omega, e2⟩
    · exact ⟨t, h1, h2, h.2.1 t (by omega)⟩
  · by_cases e : a ≤ t ∧ t < b
    · obtain ⟨u, u1, u2, e2⟩ := h.2.2.2 t e.1 e.2
      exact ⟨u, by omega, by omega, e2⟩
    · exact ⟨t, h1, h2, h.2.1 t (by omega)⟩
theorem Sw.swap {a b : Nat} {L : List Int} {i j : Nat} (hb : b ≤ L.length) (h1 : a ≤ i) (h2 : i < b) (h3 : a ≤ j) (h4 : j < b) : Sw a b L (swp L i j) := by
  have E := fun t => swp_at (L := L) (i := i) (j := j) (by omega) (by omega) t
  refine ⟨swp_len _ _ _, fun t ht => by rw [E, if_neg (by omega), if_neg (by omega)], fun t t1 t2 => ?_, fun t t1 t2 => ?_⟩
  · rw [E]
    by_cases e : t = j
    · exact ⟨i, h1, h2, by rw [if_pos e]⟩
    · by_cases e2 : t = i
      · exact ⟨j, h3, h4, by rw [if_neg e, if_pos e2]⟩
      · exact ⟨t, t1, t2, by rw [if_neg e, if_neg e2]⟩
  · by_cases e : t = j
    · subst e
      refine ⟨i, h1, h2, ?_⟩
      rw [E]
      by_cases e2 : i = t
      · rw [if_pos e2, e2]
      · rw [if_neg e2, if_pos rfl]
    · by_cases e2 : t = i
      · subst e2; exact ⟨j, h3, h4, by rw [E, if_pos rfl]⟩
      · exact ⟨t, t1, t2, by rw [E, if_neg e, if_neg e2]⟩
theorem Sw.all {a b : Nat} {L M : List Int} (h : Sw a b L M) {p : Int → Prop} (hp : ∀ t, a ≤ t → t < b → p (gt L t)) : ∀ t, a ≤ t → t < b → p (gt M t) := fun t h1 h2 => by
  obtain ⟨u, u1, u2, e⟩ := h.2.2.1 t h1 h2
  rw [e]; exact hp u u1 u2
/-- All numbers of the list lie below N. -/
def InR (N : Int) (L : List Int) : Prop := ∀ t, t < L.length → 0 ≤ gt L t ∧ gt L t < N
theorem Sw.inR {a b : Nat} {N : Int} {L M : List Int} (h : Sw a b L M) (hb : b ≤ L.length) (hL : InR N L) : InR N M := fun t ht => by
  rw [h.1] at ht
  by_cases e : a ≤ t ∧ t < b
  · exact h.all (p := fun x => 0 ≤ x ∧ x < N) (fun u u1 u2 => hL u (by omega)) t e.1 e.2
  · rw [h.2.1 t (by omega)]; exact hL t ht
/-- By the key, then by the number. -/
def ltK (K : Int → Int) (x y : Int) : Prop := K x < K y ∨ (K x = K y ∧ x < y)
theorem ltK.trans {K : Int → Int} {x y z : Int} (h : ltK K x y) (k : ltK K y z) : ltK K x z := by unfold ltK at *; omega
def SrtK (K : Int → Int) (L : List Int) (a b : Nat) : Prop := ∀ i j, a ≤ i → i < j → j < b → ltK K (gt L i) (gt L j)
theorem SrtK.congr {K : Int → Int} {L M : List Int} {a b : Nat} (h : SrtK K L a b) (e : ∀ t, a ≤ t → t < b → gt M t = gt L t) : SrtK K M a b := fun i j h1 h2 h3 => by
  rw [e i h1 (by omega), e j (by omega) h3]; exact h i j h1 h2 h3
theorem SrtK.one (K : Int → Int) (L : List Int) (a b : Nat) (h : b ≤ a + 1) : SrtK K L a b := fun i j h1 h2 h3 => by omega
/-- Insertion: number i of L stands at j now; what it has passed is greater. -/
def InsI (K : Int → Int) (a i : Nat) (L M : List Int) (j : Nat) : Prop :=
  a ≤ j ∧ j ≤ i ∧ (∀ t, t < j ∨ i < t → gt M t = gt L t) ∧ gt M j = gt L i ∧ (∀ t, j < t → t ≤ i → gt M t = gt L (t - 1)) ∧ (∀ t, j < t → t ≤ i → K (gt L i) < K (gt M t)) ∧ Sw a (i + 1) L M
theorem InsI.start (K : Int → Int) {a i : Nat} (L : List Int) (h : a ≤ i) : InsI K a i L L i :=
  ⟨h, Nat.le_refl _, fun _ _ => rfl, rfl, fun t h1 h2 => by omega, fun t h1 h2 => by omega, Sw.refl _ _ _⟩
theorem InsI.step {K : Int → Int} {a i j : Nat} {L M : List Int} (h : InsI K a i L M j) (hi : i < L.length) (hj : a < j) (hk : K (gt M j) < K (gt M (j - 1))) : InsI K a i L (swp M j (j - 1)) (j - 1) := by
  obtain ⟨h1, h2, h3, h4, h5, h6, h7⟩ := h
  have hl := h7.1
  have E := fun t => swp_at (L := M) (i := j) (j := j - 1) (by omega) (by omega) t
  have e1 := h3 (j - 1) (by omega)
  refine ⟨by omega, by omega, fun t ht => ?_, ?_, fun t t1 t2 => ?_, fun t t1 t2 => ?_, h7.trans (Sw.swap (by omega) (by omega) (by omega) (by omega) (by omega))⟩
  · rw [E, if_neg (by omega), if_neg (by omega)]; exact h3 t (by omega)
  · rw [E, if_pos rfl]; exact h4
  · rw [E, if_neg (by omega)]
    by_cases e : t = j
    · subst e; rw [if_pos rfl]; exact e1
    · rw [if_neg e]; exact h5 t (by omega) t2
  · rw [E, if_neg (by omega)]
    by_cases e : t = j
    · subst e; rw [if_pos rfl, ← h4]; exact hk
    · rw [if_neg e]; exact h6 t (by omega) t2
theorem InsI.done {K : Int → Int} {a i j : Nat} {L M : List Int} (h : InsI K a i L M j) (hs : SrtK K L a i) (hx : ∀ t, a ≤ t → t < i → gt L t < gt L i) (he : j = a ∨ ¬ K (gt M j) < K (gt M (j - 1))) : SrtK K M a (i + 1) := by
  obtain ⟨h1, h2, h3, h4, h5, h6, h7⟩ := h
  have low : ∀ t, a ≤ t → t < j → ltK K (gt L t) (gt L i) := by
    intro t t1 t2
    rcases he with he | he
    · omega
    · rw [h4, h3 (j - 1) (by omega)] at he
      have q1 : ltK K (gt L (j - 1)) (gt L i) := by have := hx (j - 1) (by omega) (by omega); unfold ltK; omega
      by_cases e : t = j - 1
      · subst e; exact q1
      · exact (hs t (j - 1) t1 (by omega) (by omega)).trans q1
  intro u v u1 uv v2
  by_cases hv : v < j
  · rw [h3 u (by omega), h3 v (by omega)]; exact hs u v u1 uv (by omega)
  · by_cases hv2 : v = j
    · subst hv2; rw [h4, h3 u (by omega)]; exact low u u1 uv
    · have e5 := h5 v (by omega) (by omega)
      by_cases hu : u < j
      · rw [h3 u (by omega), e5]; exact hs u (v - 1) u1 (by omega) (by omega)
      · by_cases hu2 : u = j
        · subst hu2
          rw [h4]
          exact Or.inl (h6 v (by omega) (by omega))
        · rw [h5 u (by omega) (by omega), e5]; exact hs (u - 1) (v - 1) (by omega) (by omega) (by omega)
end Go.Proofs.Ytkbceojeahninaa
