/- Plain laws of a stable sort by blocks: sorted blocks, merged two by two. -/
import Derived.Test.YtkbceojeahninaaStbM
namespace Go.Proofs.Ytkbceojeahninaa
set_option linter.unusedVariables false
/-- What stands before c is smaller than c, what stands behind is not. -/
def CutN (n c : Nat) (M : List Int) : Prop := (∀ t, t < c → t < n → gt M t < (c : Int)) ∧ ∀ t, c ≤ t → t < n → (c : Int) ≤ gt M t
theorem CutN.sw {n c a b : Nat} {L M : List Int} (h : CutN n c L) (hs : Sw a b L M) (hb : b ≤ n) (hc : c ≤ a ∨ b ≤ c) : CutN n c M := by
  refine ⟨fun t t1 t2 => ?_, fun t t1 t2 => ?_⟩
  · by_cases e : a ≤ t ∧ t < b
    · obtain ⟨u, u1, u2, eu⟩ := hs.2.2.1 t e.1 e.2
      rw [eu]; exact h.1 u (by omega) (by omega)
    · rw [hs.2.1 t (by omega)]; exact h.1 t t1 t2
  · by_cases e : a ≤ t ∧ t < b
    · obtain ⟨u, u1, u2, eu⟩ := hs.2.2.1 t e.1 e.2
      rw [eu]; exact h.2 u (by omega) (by omega)
    · rw [hs.2.1 t (by omega)]; exact h.2 t t1 t2
theorem CutN.low {n c a b : Nat} {L : List Int} (h : CutN n c L) (hb : b ≤ n) : LowK L a c b := fun i j i1 i2 j1 j2 => by
  have := h.1 i i2 (by omega)
  have := h.2 j j1 (by omega)
  omega
theorem CutN.far {n c : Nat} {L : List Int} (hc : n ≤ c) (h : ∀ t, t < n → gt L t < (n : Int)) : CutN n c L := ⟨fun t _ t2 => by have := h t t2; omega, fun t t1 t2 => by omega⟩
theorem SrtK.far {K : Int → Int} {L M : List Int} {a b x y : Nat} (h : SrtK K L x y) (hs : Sw a b L M) (hx : y ≤ a ∨ b ≤ x) : SrtK K M x y := h.congr fun t t1 t2 => hs.2.1 t (by omega)
/-- Blocks of twenty, the first k of them sorted. -/
def St1 (K : Int → Int) (n k : Nat) (M : List Int) : Prop := (∀ q, q < k → SrtK K M (q * 20) (q * 20 + 20)) ∧ (∀ t, k * 20 ≤ t → t < n → gt M t = (t : Int)) ∧ ∀ q, CutN n (q * 20) M
theorem st1_zero (K : Int → Int) {n : Nat} {M : List Int} (h : ∀ t, t < n → gt M t = (t : Int)) : St1 K n 0 M :=
  ⟨fun q hq => by omega, fun t _ t2 => h t t2, fun q => ⟨fun t t1 t2 => by rw [h t t2]; omega, fun t t1 t2 => by rw [h t t2]; omega⟩⟩
theorem st1_asc {K : Int → Int} {n k : Nat} {M : List Int} (h : St1 K n k M) (b : Nat) (hb : b ≤ n) : ∀ t u, k * 20 ≤ t → t < u → u < b → gt M t < gt M u := fun t u h1 h2 h3 => by
  rw [h.2.1 t h1 (by omega), h.2.1 u (by omega) (by omega)]; omega
theorem st1_step {K : Int → Int} {n k : Nat} {M M' : List Int} (h : St1 K n k M) (hk : k * 20 + 20 ≤ n) (hs : Sw (k * 20) (k * 20 + 20) M M') (hr : SrtK K M' (k * 20) (k * 20 + 20)) : St1 K n (k + 1) M' := by
  refine ⟨fun q hq => ?_, fun t t1 t2 => ?_, fun q => (h.2.2 q).sw hs hk (by omega)⟩
  · by_cases e : q = k
    · subst e; exact hr
    · exact (h.1 q (by omega)).far hs (by omega)
  · rw [hs.2.1 t (by omega)]; exact h.2.1 t (by omega) t2
def SBk (K : Int → Int) (s n : Nat) (M : List Int) : Prop := ∀ q, SrtK K M (q * s) (min (q * s + s) n)
def CSk (s n : Nat) (M : List Int) : Prop := ∀ q, CutN n (q * s) M
theorem st1_end {K : Int → Int} {n k : Nat} {M M' : List Int} (h : St1 K n k M) (h1 : k * 20 ≤ n) (h2 : n < k * 20 + 20) (hs : Sw (k * 20) n M M') (hr : SrtK K M' (k * 20) n) : SBk K 20 n M' ∧ CSk 20 n M' := by
  refine ⟨fun q => ?_, fun q => ?_⟩
  · by_cases e : q < k
    · rw [show min (q * 20 + 20) n = q * 20 + 20 by omega]; exact (h.1 q e).far hs (by omega)
    · by_cases e2 : q = k
      · subst e2; rw [show min (q * 20 + 20) n = n by omega]; exact hr
      · exact SrtK.one _ _ _ _ (by omega)
  · by_cases e : q ≤ k
    · exact (h.2.2 q).sw hs (Nat.le_refl _) (by omega)
    · refine ⟨fun t t1 t2 => ?_, fun t t1 t2 => by omega⟩
      by_cases e3 : k * 20 ≤ t
      · obtain ⟨u, u1, u2, eu⟩ := hs.2.2.1 t e3 t2
        rw [eu, h.2.1 u u1 u2]; omega
      · have := ((h.2.2 k).sw hs (Nat.le_refl _) (by omega)).1 t (by omega) t2
        omega
/-- Blocks of s, merged two by two, k pairs of them. -/
def St2 (K : Int → Int) (s n k : Nat) (M : List Int) : Prop :=
  (∀ q, q < k → SrtK K M (q * (2 * s)) (q * (2 * s) + 2 * s)) ∧ (∀ q, 2 * k ≤ q → SrtK K M (q * s) (min (q * s + s) n)) ∧ (∀ q, q ≤ k → CutN n (q * (2 * s)) M) ∧ ∀ q, 2 * k ≤ q → CutN n (q * s) M
def sOk (s : Nat) : Prop := s = 20 ∨ s = 40 ∨ s = 80
theorem st2_zero {K : Int → Int} {s n : Nat} {M : List Int} (h : SBk K s n M) (hc : CSk s n M) : St2 K s n 0 M :=
  ⟨fun q hq => by omega, fun q _ => h q, fun q hq => by have := hc 0; rw [Nat.zero_mul] at this; rw [show q = 0 by omega, Nat.zero_mul]; exact this, fun q _ => hc q⟩
theorem st2_pre {K : Int → Int} {s n k b : Nat} {M : List Int} (hs : sOk s) (h : St2 K s n k M) (h1 : k * (2 * s) + s < b) (h2 : b ≤ n) (h3 : b ≤ k * (2 * s) + 2 * s) (h4 : b = n ∨ b = k * (2 * s) + 2 * s) :
    SrtK K M (k * (2 * s)) (k * (2 * s) + s) ∧ SrtK K M (k * (2 * s) + s) b ∧ LowK M (k * (2 * s)) (k * (2 * s) + s) b := by
  have a1 := h.2.1 (2 * k) (Nat.le_refl _)
  have a2 := h.2.1 (2 * k + 1) (by omega)
  have a3 := h.2.2.2 (2 * k + 1) (by omega)
  rcases hs with rfl | rfl | rfl
  · rw [show 2 * k * 20 = k * (2 * 20) by omega, show min (k * (2 * 20) + 20) n = k * (2 * 20) + 20 by omega] at a1
    rw [show (2 * k + 1) * 20 = k * (2 * 20) + 20 by omega, show min (k * (2 * 20) + 20 + 20) n = b by omega] at a2
    rw [show (2 * k + 1) * 20 = k * (2 * 20) + 20 by omega] at a3
    exact ⟨a1, a2, a3.low h2⟩
  · rw [show 2 * k * 40 = k * (2 * 40) by omega, show min (k * (2 * 40) + 40) n = k * (2 * 40) + 40 by omega] at a1
    rw [show (2 * k + 1) * 40 = k * (2 * 40) + 40 by omega, show min (k * (2 * 40) + 40 + 40) n = b by omega] at a2
    rw [show (2 * k + 1) * 40 = k * (2 * 40) + 40 by omega] at a3
    exact ⟨a1, a2, a3.low h2⟩
  · rw [show 2 * k * 80 = k * (2 * 80) by omega, show min (k * (2 * 80) + 80) n = k * (2 * 80) + 80 by omega] at a1
    rw [show (2 * k + 1) * 80 = k * (2 * 80) + 80 by omega, show min (k * (2 * 80) + 80 + 80) n = b by omega] at a2
    rw [show (2 * k + 1) * 80 = k * (2 * 80) + 80 by omega] at a3
    exact ⟨a1, a2, a3.low h2⟩
theorem st2_step {K : Int → Int} {s n k : Nat} {M M' : List Int} (ho : sOk s) (h : St2 K s n k M) (hk : k * (2 * s) + 2 * s ≤ n) (hs : Sw (k * (2 * s)) (k * (2 * s) + 2 * s) M M') (hr : SrtK K M' (k * (2 * s)) (k * (2 * s) + 2 * s)) : St2 K s n (k + 1) M' := by
  have A : ∀ q, q < k → q * (2 * s) + 2 * s ≤ k * (2 * s) := fun q hq => by rcases ho with rfl | rfl | rfl <;> omega
  have B : ∀ q, 2 * (k + 1) ≤ q → k * (2 * s) + 2 * s ≤ q * s := fun q hq => by rcases ho with rfl | rfl | rfl <;> omega
  have C : (k + 1) * (2 * s) = k * (2 * s) + 2 * s := Nat.succ_mul _ _
  refine ⟨fun q hq => ?_, fun q hq => (h.2.1 q (by omega)).far hs (Or.inr (B q hq)), fun q hq => ?_, fun q hq => (h.2.2.2 q (by omega)).sw hs hk (Or.inr (B q hq))⟩
  · by_cases e : q = k
    · subst e; exact hr
    · exact (h.1 q (by omega)).far hs (Or.inl (A q (by omega)))
  · by_cases e : q = k + 1
    · subst e
      have h9 := h.2.2.2 (2 * (k + 1)) (by omega)
      rw [show 2 * (k + 1) * s = (k + 1) * (2 * s) by rw [Nat.mul_comm 2, Nat.mul_assoc]] at h9
      exact h9.sw hs hk (Or.inr (by omega))
    · refine (h.2.2.1 q (by omega)).sw hs hk (Or.inl ?_)
      by_cases e2 : q = k
      · subst e2; exact Nat.le_refl _
      · have := A q (by omega); omega
theorem st2_end {K : Int → Int} {s n k : Nat} {M M' : List Int} (ho : sOk s) (h : St2 K s n k M) (h1 : k * (2 * s) ≤ n) (h2 : n < k * (2 * s) + 2 * s) (hs : Sw (k * (2 * s)) n M M') (hr : SrtK K M' (k * (2 * s)) n) (hR : ∀ t, t < n → gt M' t < (n : Int)) : SBk K (2 * s) n M' ∧ CSk (2 * s) n M' := by
  have A : ∀ q, q < k → q * (2 * s) + 2 * s ≤ k * (2 * s) := fun q hq => by rcases ho with rfl | rfl | rfl <;> omega
  have B : ∀ q, k < q → k * (2 * s) + 2 * s ≤ q * (2 * s) := fun q hq => by rcases ho with rfl | rfl | rfl <;> omega
  refine ⟨fun q => ?_, fun q => ?_⟩
  · by_cases e : q < k
    · have := A q e
      rw [show min (q * (2 * s) + 2 * s) n = q * (2 * s) + 2 * s by omega]; exact (h.1 q e).far hs (Or.inl (A q e))
    · by_cases e2 : q = k
      · subst e2; rw [show min (q * (2 * s) + 2 * s) n = n by omega]; exact hr
      · have := B q (by omega)
        exact SrtK.one _ _ _ _ (by omega)
  · by_cases e : q ≤ k
    · refine (h.2.2.1 q e).sw hs (Nat.le_refl _) (Or.inl ?_)
      by_cases e2 : q = k
      · subst e2; exact Nat.le_refl _
      · have := A q (by omega); omega
    · have := B q (by omega)
      exact CutN.far (by omega) hR
/-- No second block: the last pair is sorted as it is. -/
theorem st2_one {K : Int → Int} {s n k : Nat} {M : List Int} (ho : sOk s) (h : St2 K s n k M) (h1 : n ≤ k * (2 * s) + s) : SrtK K M (k * (2 * s)) n := by
  have a1 := h.2.1 (2 * k) (Nat.le_refl _)
  rw [show 2 * k * s = k * (2 * s) by rw [Nat.mul_comm 2, Nat.mul_assoc], show min (k * (2 * s) + s) n = n by omega] at a1
  exact a1
theorem sbk_all {K : Int → Int} {s n : Nat} {M : List Int} (h : SBk K s n M) (hs : n ≤ s) : SrtK K M 0 n := by
  have := h 0
  rwa [Nat.zero_mul, show min (0 + s) n = n by omega] at this
end Go.Proofs.Ytkbceojeahninaa
