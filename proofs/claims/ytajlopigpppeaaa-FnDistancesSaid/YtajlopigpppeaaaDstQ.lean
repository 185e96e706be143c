/- Plain laws of FnDistances for drawn tunes. -/
import Derived.Test.YtajlopigpppeaaaDisP
import Derived.Test.YtajlopigpppeaaaDistC
import Derived.Test.YtajlopigpppeaaaComI
import Derived.Test.YtajlopigpppeaaaDif
import Derived.Test.YtajlopigpppeaaaNear
import Derived.Test.YtajlopigpppeaaaBackS
import Derived.Test.YtajlopigpppeaaaSamL
namespace Go.Proofs.Ytajlopigpppeaaa
open Go.ChangeShapes Go.WideShapes Go.ChangeAt Go.RowKit
set_option linter.unusedVariables false
theorem dr_at {l : List (Int × Int)} (h : drL l) {k : Nat} (hk : k < l.length) : 0 ≤ tm l k ∧ tm l k ≤ 15 ∧ 10 ≤ pt l k ∧ pt l k ≤ 19 := by
  have h1 := h _ (List.getElem_mem hk)
  rw [← note_get hk] at h1
  exact h1
theorem tm_le {l : List (Int × Int)} (h : tuneB l = true) {i j : Nat} (hij : i ≤ j) (hj : j < l.length) : tm l i ≤ tm l j := by
  by_cases e : i = j
  · subst e; omega
  · obtain ⟨d, rfl⟩ : ∃ d, j = i + d + 1 := ⟨j - i - 1, by omega⟩
    have h1 := tune_lt h i d hj
    rw [ltN_iff] at h1
    unfold tm; omega
theorem bac_mem {l : List (Int × Int)} {x : Int × Int} : ∀ k, x ∈ bacTo l k → ∃ j, j < k ∧ x = (tm l 0 + tm l (l.length - 1) - tm l j, pt l j)
  | 0, h => by simp [bacTo] at h
  | k + 1, h => by
    rw [bacTo_succ, List.mem_append, List.mem_singleton] at h
    rcases h with h | h
    · obtain ⟨j, hj, e⟩ := bac_mem k h
      exact ⟨j, by omega, e⟩
    · exact ⟨k, by omega, h⟩
theorem bac_dr {l : List (Int × Int)} (h : drT l) : drT (bacL l) := by
  refine drT_srt ?_ (by rw [bacTo_len]; exact h.2.1)
  intro x hx
  obtain ⟨j, hj, rfl⟩ := bac_mem _ hx
  have a1 := tm_le h.1 (Nat.zero_le j) hj
  have a2 := tm_le h.1 (show j ≤ l.length - 1 by omega) (by omega)
  have b0 := dr_at h.2.2 (show 0 < l.length by omega)
  have b1 := dr_at h.2.2 (show l.length - 1 < l.length by omega)
  have b2 := dr_at h.2.2 hj
  exact ⟨by simp only; omega, by simp only; omega, b2.2.2.1, b2.2.2.2⟩
/-- The facts of the first test. -/
theorem dst_facts {a b c : List (Int × Int)} (ha : drT a) (hb : drT b) (hc : drT c) : ∃ d n x y : Int, disB a b = d ∧ disB b a = d ∧ comB a b = n ∧ comB b a = n ∧ disB a c = x ∧ disB c b = y ∧
    disB a a = 0 ∧ comB a a = (a.length : Int) ∧ 0 ≤ d ∧ 0 ≤ n ∧ d ≤ max (a.length : Int) (b.length : Int) ∧ (a.length : Int) - b.length ≤ d ∧ (b.length : Int) - a.length ≤ d ∧ d ≤ x + y ∧ 0 ≤ x ∧ x ≤ 80 ∧ 0 ≤ y ∧ y ≤ 80 ∧
    d ≤ (a.length : Int) + b.length - 2 * n ∧ (a.length : Int) - n ≤ d ∧ (b.length : Int) - n ≤ d ∧ d ≤ 80 ∧ n ≤ 80 := by
  have A := ha.1
  have B := hb.1
  have C := hc.1
  have la := ha.2.1
  have lb := hb.2.1
  have lc := hc.2.1
  have h1 := dis_rng a b a.length b.length
  have h2 := com_rng a b a.length b.length
  have h3 := dis_low a b a.length b.length
  have h4 := dis_com a b a.length b.length
  have h5 := dis_tri a c b _ a.length c.length b.length (Nat.le_refl _)
  have h6 := dis_rng a c a.length c.length
  have h7 := dis_rng c b c.length b.length
  refine ⟨dis a b a.length b.length, com a b a.length b.length, dis a c a.length c.length, dis c b c.length b.length, disB_yes A B, ?_, comB_yes A B, ?_, disB_yes A C, disB_yes C B, ?_, ?_, h1.1, h2.1, h3.2.2, h3.1, h3.2.1, h5, h6.1, by omega, h7.1, by omega, h4.1, by omega, by omega, by omega, by omega⟩
  · rw [disB_yes B A, dis_sym]
  · rw [comB_yes B A, com_sym]
  · rw [disB_yes A A, dis_self]
  · rw [comB_yes A A, com_self]
theorem wr_small {x : Int} (h1 : -1000000 ≤ x) (h2 : x ≤ 1000000) : wrap64 x = x := by unfold wrap64; omega
theorem num_test {p q D N X Y : Int} (h0 : 0 ≤ D) (h00 : 0 ≤ N) (h1 : D ≤ max p q) (h2 : p - q ≤ D) (h3 : q - p ≤ D) (h6 : D ≤ X + Y) (h7 : D ≤ p + q - 2 * N) (h4 : p - N ≤ D) (h5 : q - N ≤ D) :
    decide (D < 0) = false ∧ decide (N < 0) = false ∧ decide (max p q < D) = false ∧ decide (D < max (p - q) (q - p)) = false ∧ decide (X + Y < D) = false ∧ decide (p + q - 2 * N < D) = false ∧ decide (D < max p q - N) = false :=
  ⟨decide_eq_false (by omega), decide_eq_false (by omega), decide_eq_false (by omega), decide_eq_false (by omega), decide_eq_false (by omega), decide_eq_false (by omega), decide_eq_false (by omega)⟩
theorem num_wr {p q N X Y : Int} (p0 : 0 ≤ p) (p1 : p ≤ 80) (q0 : 0 ≤ q) (q1 : q ≤ 80) (n0 : 0 ≤ N) (n1 : N ≤ 80) (x0 : 0 ≤ X) (x1 : X ≤ 80) (y0 : 0 ≤ Y) (y1 : Y ≤ 80) :
    wrap64 (X + Y) = X + Y ∧ wrap64 (p + q) = p + q ∧ wrap64 (2 * N) = 2 * N ∧ wrap64 (p + q - 2 * N) = p + q - 2 * N ∧ wrap64 (p - q) = p - q ∧ wrap64 (q - p) = q - p ∧ wrap64 (p - N) = p - N ∧ wrap64 (q - N) = q - N :=
  ⟨wr_small (by omega) (by omega), wr_small (by omega) (by omega), wr_small (by omega) (by omega), wr_small (by omega) (by omega), wr_small (by omega) (by omega), wr_small (by omega) (by omega), wr_small (by omega) (by omega), wr_small (by omega) (by omega)⟩
/-- All that the first test asks. -/
theorem dst_all {a b c : List (Int × Int)} (ha : drT a) (hb : drT b) (hc : drT c) : ∃ D N X Y : Int,
    (disB a b = D ∧ disB b a = D ∧ comB a b = N ∧ comB b a = N ∧ disB a c = X ∧ disB c b = Y ∧ disB a a = 0 ∧ comB a a = (a.length : Int)) ∧
    (0 ≤ D ∧ D ≤ 80) ∧ (¬ D < 0 ∧ ¬ N < 0 ∧ ¬ X + Y < D ∧ ¬ (a.length : Int) + (b.length : Int) - 2 * N < D) ∧
    (decide (D < 0) = false ∧ decide (N < 0) = false ∧ decide (max (a.length : Int) b.length < D) = false ∧ decide (D < max ((a.length : Int) - b.length) ((b.length : Int) - a.length)) = false ∧ decide (X + Y < D) = false ∧ decide ((a.length : Int) + b.length - 2 * N < D) = false ∧ decide (D < max (a.length : Int) b.length - N) = false) ∧
    (wrap64 (X + Y) = X + Y ∧ wrap64 ((a.length : Int) + b.length) = (a.length : Int) + b.length ∧ wrap64 (2 * N) = 2 * N ∧ wrap64 ((a.length : Int) + b.length - 2 * N) = (a.length : Int) + b.length - 2 * N ∧ wrap64 ((a.length : Int) - b.length) = (a.length : Int) - b.length ∧ wrap64 ((b.length : Int) - a.length) = (b.length : Int) - a.length ∧ wrap64 ((a.length : Int) - N) = (a.length : Int) - N ∧ wrap64 ((b.length : Int) - N) = (b.length : Int) - N) := by
  have la := ha.2.1
  have lb := hb.2.1
  obtain ⟨D, N, X, Y, e1, e2, e3, e4, e5, e6, e7, e8, f1, f2, f3, f4, f5, f6, fx0, fx1, fy0, fy1, f7, f8, f9, f10, f11⟩ := dst_facts ha hb hc
  exact ⟨D, N, X, Y, ⟨e1, e2, e3, e4, e5, e6, e7, e8⟩, ⟨f1, f10⟩, ⟨Int.not_lt.2 f1, Int.not_lt.2 f2, Int.not_lt.2 f6, Int.not_lt.2 f7⟩, num_test f1 f2 f3 f4 f5 f6 f7 f8 f9,
    num_wr (Int.natCast_nonneg _) (by clear f3; omega) (Int.natCast_nonneg _) (by clear f3; omega) f2 f11 fx0 fx1 fy0 fy1⟩
theorem dst_same {a b : List (Int × Int)} (ha : drT a) (hb : drT b) : disB a b = 0 ↔ a.length = b.length ∧ ∀ j, j < a.length → pt a j = pt b j := by
  rw [disB_yes ha.1 hb.1]
  constructor
  · intro h
    have h3 := dis_low a b a.length b.length
    have e : a.length = b.length := by omega
    refine ⟨e, ?_⟩
    rw [← e] at h
    exact dis_zero _ h
  · rintro ⟨e, h⟩
    rw [← e]
    exact dis_same _ h
/-! ### the times at which they differ -/
theorem dif_each {a b : List (Int × Int)} (ha : drT a) (hb : drT b) {k : Nat} (hk : k < (difZ a b).length) : smL (natB a (gt (difZ a b) k)) (natB b (gt (difZ a b) k)) = false := by
  have hm : gt (difZ a b) k ∈ difZ a b := by
    have e : gt (difZ a b) k = (difZ a b)[k] := by simp [gt, hk]
    rw [e]; exact List.getElem_mem hk
  rw [difZ_yes ⟨ha.1, hb.1⟩] at hm
  obtain ⟨j, _, e, hn⟩ := (difTo_mem _ _).1 hm
  rw [difZ_yes ⟨ha.1, hb.1⟩]
  exact decide_eq_false hn
theorem nat_far {a : List (Int × Int)} (ha : drT a) {t : Int} (h : 16 ≤ t) : natB a t = [] := natB_none fun x hx e => by
  have := ha.2.2 x hx
  have h2 := this.2.1
  omega
theorem dif_far {a b : List (Int × Int)} (ha : drT a) (hb : drT b) : ∀ m, difTo a b (fun k => (k : Int)) (16 + m) = difTo a b (fun k => (k : Int)) 16
  | 0 => rfl
  | m + 1 => by
    rw [show 16 + (m + 1) = (16 + m) + 1 by omega, dif_yes (by rw [nat_far ha (by omega), nat_far hb (by omega)])]
    exact dif_far ha hb m
noncomputable def dfN (a b : List (Int × Int)) (k : Nat) : Int := ((difTo a b (fun k => (k : Int)) k).length : Int)
theorem dfN_zero (a b : List (Int × Int)) : dfN a b 0 = 0 := rfl
theorem dfN_rng (a b : List (Int × Int)) (k : Nat) : 0 ≤ dfN a b k ∧ dfN a b k ≤ (k : Int) := by
  have := difTo_len a b (fun k => (k : Int)) k
  unfold dfN; omega
theorem dfN_succ (a b : List (Int × Int)) (k : Nat) : dfN a b (k + 1) = dfN a b k + btZ (!(smL (natB a k) (natB b k))) := by
  unfold dfN
  by_cases h : natB a (k : Int) = natB b (k : Int)
  · have e : smL (natB a k) (natB b k) = true := decide_eq_true h
    rw [dif_yes (f := fun k => (k : Int)) h, e]
    show _ = _ + (0 : Int)
    omega
  · have e : smL (natB a k) (natB b k) = false := decide_eq_false h
    rw [dif_no (f := fun k => (k : Int)) h, e, List.length_append]
    show _ = _ + (1 : Int)
    simp
theorem dfN_all {a b : List (Int × Int)} (ha : drT a) (hb : drT b) : ((difZ a b).length : Int) = dfN a b 16 := by
  rw [difZ_yes ⟨ha.1, hb.1⟩]
  unfold dfN
  rw [show (1001 : Nat) = 16 + 985 from rfl, dif_far ha hb]
theorem dif_self {a : List (Int × Int)} (ha : drT a) : difZ a a = [] := by
  rw [difZ_yes ⟨ha.1, ha.1⟩]
  have : ∀ m, difTo a a (fun k => (k : Int)) m = [] := fun m => by
    induction m with
    | zero => rfl
    | succ m ih => rw [dif_yes rfl]; exact ih
  exact this 1001
/-! ### the nearest -/
theorem near_law {a b c : List (Int × Int)} (ha : drT a) (hb : drT b) (hc : drT c) : nearB [b, a, c] a = if disB b a = 0 then 0 else 1 := by
  have hok : nearOk [b, a, c] a := by
    refine ⟨⟨by simp, by simp⟩, ?_, ha.1⟩
    intro k hk
    have hk3 : k < 3 := hk
    match k, hk3 with
    | 0, _ => exact hb.1
    | 1, _ => exact ha.1
    | 2, _ => exact hc.1
  rw [nearB_yes hok]
  have n0 : nt [b, a, c] 0 = b := rfl
  have n1 : nt [b, a, c] 1 = a := rfl
  have n2 : nt [b, a, c] 2 = c := rfl
  have p1 := dis_pos ⟨hb.1, ha.1⟩
  have p2 := dis_pos ⟨hc.1, ha.1⟩
  have p3 : disB a a = 0 := by rw [disB_yes ha.1 ha.1, dis_self]
  have z0 : nbZ [b, a, c] a 0 = 0 := rfl
  have z1 : nbZ [b, a, c] a 1 = 0 := by rw [nb_no (by rw [z0]; omega)]; rfl
  show ((nbZ [b, a, c] a 3 : Nat) : Int) = _
  by_cases h : disB b a = 0
  · rw [if_pos h]
    have z2 : nbZ [b, a, c] a 2 = 0 := by rw [nb_no (by rw [z1, n0, n1]; omega)]; exact z1
    rw [nb_no (by rw [z2, n0, n2]; omega), z2]; rfl
  · rw [if_neg h]
    have z2 : nbZ [b, a, c] a 2 = 1 := by rw [nb_yes (by rw [z1, n0, n1]; omega)]
    rw [nb_no (by rw [z2, n1, n2]; omega), z2]; rfl
theorem rd_three {w : World} {A B C : Option Addr} {a b c : List (Int × Int)} {p q r : Nat} (e : TypeId) (ha : RdN w A a) (hb : RdN w B b) (hc : RdN w C c) (h1 : a.length ≤ p) (h2 : p ≤ maxLen) (h3 : b.length ≤ q) (h4 : q ≤ maxLen) (h5 : c.length ≤ r) (h6 : r ≤ maxLen) :
    RdNS (w.alloc (.cells #[.slice A a.length p, .slice B b.length q, .slice C c.length r] e)) (some ⟨w.heap.size, 0, none⟩) [a, b, c] := by
  have hbw : Below w.heap.size w (w.alloc (.cells #[.slice A a.length p, .slice B b.length q, .slice C c.length r] e)) := (Below.refl _ _).alloc (Nat.le_refl _) _
  intro _
  refine ⟨w.heap.size, 0, rfl, by simp, fun j hj => ?_⟩
  have hj3 : j < 3 := hj
  match j, hj3 with
  | 0, _ => exact ⟨A, p, by simp [go_sem, nt], h1, h2, ha.below hbw rfl⟩
  | 1, _ => exact ⟨B, q, by simp [go_sem, nt], h3, h4, hb.below hbw rfl⟩
  | 2, _ => exact ⟨C, r, by simp [go_sem, nt], h5, h6, hc.below hbw rfl⟩
end Go.Proofs.Ytajlopigpppeaaa
