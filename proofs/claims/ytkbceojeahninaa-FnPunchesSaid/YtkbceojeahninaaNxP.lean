/- Plain laws: what the program's nextOrder makes of a list is the next order. -/
import Derived.Test.YtkbceojeahninaaNxt
namespace Go.Proofs.Ytkbceojeahninaa
set_option linter.unusedVariables false
theorem gt_get {l : List Int} {i : Nat} (h : i < l.length) : gt l i = l[i] := by simp [gt, h]
theorem adj_lt {l : List Int} {i : Nat} (h : ∀ j, i < j → j + 1 < l.length → gt l (j + 1) < gt l j) (a : Nat) (ha : i < a) : ∀ d, a + d + 1 < l.length → gt l (a + d + 1) < gt l a
  | 0, hd => h a ha hd
  | d + 1, hd => by
    have h1 := adj_lt h a ha d (by omega)
    have h2 := h (a + d + 1) (by omega) (by omega)
    rw [show a + (d + 1) + 1 = a + d + 1 + 1 by omega]
    omega
theorem desc_drop {l : List Int} {i : Nat} (h : ∀ j, i < j → j + 1 < l.length → gt l (j + 1) < gt l j) : (l.drop (i + 1)).Pairwise (fun a b => b < a) := by
  rw [List.pairwise_iff_getElem]
  intro a b ha hb hab
  simp only [List.length_drop] at ha hb
  have := adj_lt h (i + 1 + a) (by omega) (b - a - 1) (by omega)
  rw [show i + 1 + a + (b - a - 1) + 1 = i + 1 + b by omega, gt_get (by omega), gt_get (by omega)] at this
  simpa using this
theorem desc_all {l : List Int} (h : ∀ j, j + 1 < l.length → gt l (j + 1) < gt l j) : nxt l = none := by
  refine nxt_desc ?_
  rw [List.pairwise_iff_getElem]
  intro a b ha hb hab
  have h0 : ∀ d, a + d + 1 < l.length → gt l (a + d + 1) < gt l a := by
    intro d
    induction d with
    | zero => intro hd; exact h a hd
    | succ d ih => intro hd; have h1 := ih (by omega); have h2 := h (a + d + 1) (by omega); rw [show a + (d + 1) + 1 = a + d + 1 + 1 by omega]; omega
  have := h0 (b - a - 1) (by omega)
  rw [show a + (b - a - 1) + 1 = b by omega, gt_get hb, gt_get ha] at this
  exact this
theorem set_mid {x z : Int} {b : List Int} : ∀ a : List Int, (a ++ x :: b).set a.length z = a ++ z :: b
  | [] => rfl
  | c :: a => by
    show c :: (a ++ x :: b).set a.length z = _
    rw [set_mid a]; rfl
theorem split_at {l : List Int} {i k : Nat} (hik : i < k) (hk : k < l.length) : ∃ a u v, l = a ++ gt l i :: (u ++ gt l k :: v) ∧ a.length = i ∧ a.length + 1 + u.length = k ∧ v = l.drop (k + 1) ∧ u ++ gt l k :: v = l.drop (i + 1) := by
  have h1 : l.drop (i + 1) = (l.drop (i + 1)).take (k - i - 1) ++ gt l k :: l.drop (k + 1) := by
    have e := List.take_append_drop (k - i - 1) (l.drop (i + 1))
    rw [List.drop_drop, show i + 1 + (k - i - 1) = k by omega, List.drop_eq_getElem_cons hk] at e
    rw [gt_get hk]
    exact e.symm
  have h2 : l = l.take i ++ gt l i :: l.drop (i + 1) := by
    have e := List.take_append_drop i l
    rw [List.drop_eq_getElem_cons (by omega)] at e
    rw [gt_get (by omega)]
    exact e.symm
  refine ⟨l.take i, (l.drop (i + 1)).take (k - i - 1), l.drop (k + 1), ?_, by simp; omega, by simp; omega, rfl, h1.symm⟩
  rw [← h1]; exact h2
theorem gt_app_right (a b : List Int) (t : Nat) : gt (a ++ b) (a.length + t) = gt b t := by
  unfold gt; simp [List.getD, List.getElem?_append_right]
theorem gt_app_left {a : List Int} (b : List Int) {t : Nat} (h : t < a.length) : gt (a ++ b) t = gt a t := by
  unfold gt; simp [List.getD, List.getElem?_append_left h]
theorem gt_rev {b : List Int} {t : Nat} (h : t < b.length) : gt b.reverse t = gt b (b.length - 1 - t) := by
  rw [gt_get (by simpa using h), gt_get (by omega), List.getElem_reverse]
theorem next_eq {L L' : List Int} {i k : Nat} (hik : i < k) (hk : k < L.length) (hn : L.Nodup) (hd : ∀ j, i < j → j + 1 < L.length → gt L (j + 1) < gt L j) (hlo : ∀ j, k < j → j < L.length → gt L j < gt L i) (hy : ¬ gt L k < gt L i)
    (hl : L'.length = L.length) (hM : ∀ t, t < L.length → gt L' t = revAt ((L.set i (gt L k)).set k (gt L i)) (i + 1) (L.length - 1 - i) (L.length - 1 - i) t) : nxt L = some L' := by
  obtain ⟨a, u, v, hL, ha, hu, hv, hdr⟩ := split_at hik hk
  have hne : gt L i ≠ gt L k := by
    rw [gt_get (by omega), gt_get hk]
    intro e
    have := List.getElem_inj (h₀ := by omega) (h₁ := hk) hn |>.1 e
    omega
  have hx := nxt_at (a := a) (u := u) (v := v) (x := gt L i) (y := gt L k) (by rw [hdr]; exact desc_drop hd) (by
    intro z hz
    rw [hv] at hz
    obtain ⟨j, hj, rfl⟩ := List.getElem_of_mem hz
    simp only [List.length_drop] at hj
    have := hlo (k + 1 + j) (by omega) (by omega)
    rw [gt_get (by omega)] at this
    simpa using this) (by omega)
  rw [← hL] at hx
  rw [hx]
  obtain ⟨x, hxx⟩ : ∃ x, x = gt L i := ⟨_, rfl⟩
  obtain ⟨y, hyy⟩ : ∃ y, y = gt L k := ⟨_, rfl⟩
  rw [← hxx, ← hyy] at hM hL ⊢
  have e1 : (L.set i y).set k x = a ++ y :: (u ++ x :: v) := by
    rw [hL, ← ha, set_mid a, ← hu]
    have := set_mid (x := y) (z := x) (b := v) (a ++ y :: u)
    simp only [List.append_assoc, List.cons_append, List.length_append, List.length_cons] at this
    rw [show a.length + 1 + u.length = a.length + (u.length + 1) by omega]
    exact this
  rw [e1] at hM
  have hlen : L.length = a.length + 1 + (u.length + 1 + v.length) := by rw [hL]; simp; omega
  congr 1
  refine ext_gt (by rw [hl, hlen]; simp; omega) fun t ht => ?_
  rw [hl] at ht
  rw [hM t ht]
  unfold revAt
  by_cases h : i + 1 ≤ t
  · rw [if_pos (by omega)]
    have e2 : a ++ y :: (u ++ x :: v) = (a ++ [y]) ++ (u ++ x :: v) := by simp
    have e3 : a ++ y :: (u ++ x :: v).reverse = (a ++ [y]) ++ (u ++ x :: v).reverse := by simp
    have el : (a ++ [y]).length = i + 1 := by simp; omega
    have er : (u ++ x :: v).length = L.length - 1 - i := by rw [hlen]; simp; omega
    rw [e2, e3]
    have g1 := gt_app_right (a ++ [y]) (u ++ x :: v) (i + 1 + (L.length - 1 - i) - 1 - t)
    have g2 := gt_app_right (a ++ [y]) (u ++ x :: v).reverse (t - i - 1)
    rw [el] at g1 g2
    rw [g1, show t = i + 1 + (t - i - 1) by omega, g2, gt_rev (by omega), er]
    congr 1
    omega
  · rw [if_neg (by omega)]
    have e2 : a ++ y :: (u ++ x :: v) = (a ++ [y]) ++ (u ++ x :: v) := by simp
    have e3 : a ++ y :: (u ++ x :: v).reverse = (a ++ [y]) ++ (u ++ x :: v).reverse := by simp
    have el : (a ++ [y]).length = i + 1 := by simp; omega
    rw [e2, e3]
    have q1 := gt_app_left (a := a ++ [y]) (u ++ x :: v) (t := t) (by omega)
    have q2 := gt_app_left (a := a ++ [y]) (u ++ x :: v).reverse (t := t) (by omega)
    rw [q1, q2]
end Go.Proofs.Ytkbceojeahninaa
