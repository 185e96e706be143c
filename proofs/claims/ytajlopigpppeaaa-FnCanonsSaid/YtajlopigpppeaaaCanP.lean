/- Plain laws of FnCanons: the best round, a tune joined with itself, a tune moved around and back. -/
import Derived.Test.YtajlopigpppeaaaDTune
import Derived.Test.YtajlopigpppeaaaLat
import Derived.Test.YtajlopigpppeaaaSameA
import Derived.Test.YtajlopigpppeaaaBrn
namespace Go.Proofs.Ytajlopigpppeaaa
open Go.ChangeShapes Go.WideShapes Go.ChangeAt Go.RowKit
set_option linter.unusedVariables false
theorem jonTo_ge (a b : List (Int × Int)) : ∀ k, a.length ≤ (jonTo a b k).length
  | 0 => Nat.le_refl _
  | k + 1 => by
    have := jonTo_ge a b k
    unfold jonTo
    split
    · exact this
    · rw [List.length_append]; omega
theorem dr_mem {l : List (Int × Int)} (h : drT l) {x : Int × Int} (hx : x ∈ l) : drN x := h.2.2 x hx
theorem dr_lat {l : List (Int × Int)} (h : drT l) {n : Int} (h0 : 0 ≤ n) (h1 : n ≤ 900) : latB l n = true ∧ latR l n = latL l n ∧ tuneB (latL l n) = true := by
  have hT : tuneB (latL l n) = true := by
    have ha : asc (latL l n) := by
      rw [← latL_srt n h.1]; exact srt_asc _
    rw [asc_tune ha]
    · rw [latL_len]; exact decide_eq_true (by have := h.2.1; omega)
    · intro x hx
      rw [latL_map, List.mem_map] at hx
      obtain ⟨y, hy, rfl⟩ := hx
      obtain ⟨a1, a2, a3, a4⟩ := dr_mem h hy
      exact ⟨⟨by simp only; omega, by simp only; omega⟩, ⟨by simp only; omega, by simp only; omega⟩⟩
  obtain ⟨e1, e2⟩ := lat_yes ⟨h.1, ⟨by omega, by omega⟩, hT⟩
  exact ⟨e1, e2, hT⟩
theorem dr_win {l : List (Int × Int)} (h : drT l) {n : Int} (h0 : 0 ≤ n) (h1 : n ≤ 900) : winB l n = true ∧ winR l n = joiZ l (latL l n) ∧ l.length ≤ (winR l n).length ∧ (winR l n).length ≤ 2 * l.length ∧ tuneB (winR l n) = true := by
  obtain ⟨e1, e2, e3⟩ := dr_lat h h0 h1
  have hl := h.2.1
  have hlen := joi_len h.1 e3
  have hge := jonTo_ge l (latL l n) (latL l n).length
  have hle := jonTo_len l (latL l n) (latL l n).length
  rw [hlen] at hge hle
  rw [latL_len] at hle
  obtain ⟨f1, f2⟩ := joi_yes (a := l) (b := latL l n) ⟨h.1, e3, by omega⟩
  obtain ⟨g1, g2⟩ := win_yes (l := l) (n := n) ⟨h0, by omega⟩ e1
  rw [e2] at g1 g2
  rw [g1, g2, f1, f2]
  refine ⟨rfl, rfl, hge, by omega, ?_⟩
  rw [joi_tune h.1 e3]
  exact decide_eq_true (by omega)
theorem dr_win0 {l : List (Int × Int)} (h : drT l) : winR l 0 = l := by
  rw [(dr_win h (Int.le_refl 0) (by omega)).2.1]
  have e : latL l 0 = l := by
    rw [latL_map]
    conv => rhs; rw [← List.map_id l]
    apply List.map_congr_left
    intro x _
    simp
  rw [e]
  unfold joiZ
  rw [srt_same (m := l) (fun x => by rw [List.mem_append, or_self])]
  exact asc_srt (tune_asc h.1)
theorem dr_rnd {l : List (Int × Int)} (h : drT l) {n : Int} (h0 : 0 ≤ n) (h1 : n ≤ 900) : 0 ≤ rndZ l n := by
  obtain ⟨e1, _, e2, e3, e4⟩ := dr_win h h0 h1
  rw [rnd_yes e1, hpZ_yes e4]
  have h40 := h.2.1
  exact (hpN_bd _ _ (by omega)).1
theorem dr_brn {l : List (Int × Int)} (h : drT l) : ∀ k : Nat, 1 ≤ k → k ≤ 100 → 1 ≤ brnA l k ∧ brnA l k ≤ (k : Int) ∧ brnC l k = rndZ l (brnA l k) ∧ ∀ j : Int, 1 ≤ j → j ≤ (k : Int) → brnC l k ≤ rndZ l j ∧ (j < brnA l k → brnC l k < rndZ l j)
  | 0, h0, _ => by omega
  | k + 1, _, hk => by
    have hr := dr_rnd h (n := (k : Int) + 1) (by omega) (by omega)
    by_cases k0 : k = 0
    · subst k0
      obtain ⟨e1, e2⟩ := brn_yes (l := l) (k := 0) ⟨hr, Or.inl (by rw [(brn_zero l).1]; omega)⟩
      rw [e1, e2]
      refine ⟨by omega, by omega, rfl, fun j hj1 hj2 => ?_⟩
      obtain rfl : j = ((0 : Nat) : Int) + 1 := by omega
      exact ⟨Int.le_refl _, fun q => by omega⟩
    · obtain ⟨a1, a2, a3, a4⟩ := dr_brn h k (by omega) (by omega)
      by_cases hc : rndZ l ((k : Int) + 1) < brnC l k
      · obtain ⟨e1, e2⟩ := brn_yes (l := l) (k := k) ⟨hr, Or.inr hc⟩
        rw [e1, e2]
        refine ⟨by omega, by omega, rfl, fun j hj1 hj2 => ?_⟩
        by_cases hj : j = (k : Int) + 1
        · subst hj; exact ⟨Int.le_refl _, fun q => by omega⟩
        · have := (a4 j hj1 (by omega)).1
          exact ⟨by omega, fun _ => by omega⟩
      · obtain ⟨e1, e2⟩ := brn_no (l := l) (k := k) (fun q => by rcases q.2 with q | q <;> omega)
        rw [e1, e2]
        refine ⟨a1, by omega, a3, fun j hj1 hj2 => ?_⟩
        by_cases hj : j = (k : Int) + 1
        · subst hj; exact ⟨by omega, fun q => by omega⟩
        · exact a4 j hj1 (by omega)
/-- The best round of a drawn tune. -/
theorem dr_best {l : List (Int × Int)} (h : drT l) {m : Int} (h1 : 1 ≤ m) (h2 : m ≤ 12) : ∃ b : Int, brnZ l m = b ∧ 1 ≤ b ∧ b ≤ m ∧ ∀ j : Int, 1 ≤ j → j ≤ m → rndZ l b ≤ rndZ l j ∧ (j < b → rndZ l b < rndZ l j) := by
  obtain ⟨a1, a2, a3, a4⟩ := dr_brn h m.toNat (by omega) (by omega)
  refine ⟨brnA l m.toNat, brnZ_yes ⟨h.1, by omega, by omega⟩, a1, by omega, fun j hj1 hj2 => ?_⟩
  have := a4 j hj1 (by omega)
  rw [a3] at this
  exact this
/-! ### around -/
def spin (n s : Int) (x : Int × Int) : Int × Int := ((x.1 + n) % s, x.2)
theorem aroTo_map (l : List (Int × Int)) (n s : Int) : ∀ k, k ≤ l.length → aroTo l n s k = (l.take k).map (spin n s)
  | 0, _ => rfl
  | k + 1, h => by
    have hk : k < l.length := by omega
    rw [aroTo, aroTo_map l n s k (by omega), List.take_succ_eq_append_getElem hk, List.map_append]
    simp [tm, pt, List.getD, hk, spin]
theorem aroS_map (l : List (Int × Int)) (n s : Int) : aroS l n s = srt (l.map (spin n s)) := by
  unfold aroS; rw [aroTo_map l n s l.length (Nat.le_refl _), List.take_length]
def in16 (l : List (Int × Int)) : Prop := tuneB l = true ∧ ∀ x ∈ l, 0 ≤ x.1 ∧ x.1 ≤ 15
theorem spin_inj {n : Int} {x y : Int × Int} (hx : 0 ≤ x.1 ∧ x.1 ≤ 15) (hy : 0 ≤ y.1 ∧ y.1 ≤ 15) (h : spin n 16 x = spin n 16 y) : x = y := by
  unfold spin at h
  obtain ⟨h1, h2⟩ := Prod.mk.inj h
  exact Prod.ext (by omega) h2
theorem aro_ok {l : List (Int × Int)} (h : in16 l) {n : Int} (h0 : 0 ≤ n) (h1 : n ≤ 1000) : aroB l n 16 = true ∧ aroL l n 16 = aroS l n 16 ∧ (aroL l n 16).length = l.length ∧ in16 (aroL l n 16) := by
  have hnd : (l.map (spin n 16)).Nodup := by
    have hl := asc_nodup (tune_asc h.1)
    unfold List.Nodup at *
    rw [List.pairwise_map]
    refine List.Pairwise.imp_of_mem (fun {a b} ha hb hab e => hab (spin_inj (h.2 a ha) (h.2 b hb) e)) hl
  have hlen : (aroS l n 16).length = l.length := by
    rw [aroS_map, srt_nodup_len hnd, List.length_map]
  obtain ⟨e1, e2⟩ := aro_yes (l := l) (n := n) (s := 16) ⟨h.1, ⟨h0, h1⟩, ⟨by omega, by omega⟩, hlen⟩
  refine ⟨e1, e2, by rw [e2]; exact hlen, ?_⟩
  rw [e2]
  have hm : ∀ x ∈ aroS l n 16, (0 ≤ x.1 ∧ x.1 ≤ 15) ∧ (0 ≤ x.2 ∧ x.2 ≤ 60) := by
    intro x hx
    rw [aroS_map, srt_mem, List.mem_map] at hx
    obtain ⟨y, hy, rfl⟩ := hx
    have h2 := (tune_mem h.1 hy).2
    unfold spin
    simp only
    omega
  refine ⟨?_, fun x hx => (hm x hx).1⟩
  have ha : asc (aroS l n 16) := by rw [aroS_map]; exact srt_asc _
  rw [asc_tune ha]
  · rw [hlen]; exact decide_eq_true (tune_lenA h.1)
  · intro x hx
    have := hm x hx
    omega
theorem aro_back {l : List (Int × Int)} (h : in16 l) {n : Int} (h0 : 0 ≤ n) (h1 : n ≤ 16) : aroB (aroL l n 16) (16 - n) 16 = true ∧ aroL (aroL l n 16) (16 - n) 16 = l := by
  obtain ⟨e1, e2, e3, e4⟩ := aro_ok h h0 (by omega)
  obtain ⟨f1, f2, f3, f4⟩ := aro_ok e4 (n := 16 - n) (by omega) (by omega)
  refine ⟨f1, ?_⟩
  rw [f2, aroS_map, srt_same (m := l), asc_srt (tune_asc h.1)]
  intro x
  rw [List.mem_map]
  have key : ∀ z : Int × Int, 0 ≤ z.1 → z.1 ≤ 15 → spin (16 - n) 16 (spin n 16 z) = z := by
    intro z z0 z1
    unfold spin
    exact Prod.ext (by simp only; omega) rfl
  constructor
  · rintro ⟨y, hy, rfl⟩
    rw [e2, aroS_map, srt_mem, List.mem_map] at hy
    obtain ⟨z, hz, rfl⟩ := hy
    rw [key z (h.2 z hz).1 (h.2 z hz).2]
    exact hz
  · intro hx
    refine ⟨spin n 16 x, ?_, key x (h.2 x hx).1 (h.2 x hx).2⟩
    rw [e2, aroS_map, srt_mem, List.mem_map]
    exact ⟨x, hx, rfl⟩
theorem eqB_self (l : List (Int × Int)) : eqB l l = true := eqB_yes rfl fun j _ => ⟨rfl, rfl⟩
theorem sa_full {l : List (Int × Int)} (h : in16 l) : saB l 16 16 = true := by
  obtain ⟨e1, e2, e3, e4⟩ := aro_ok h (n := 16) (by omega) (by omega)
  rw [saB_at e1, e2, aroS_map, srt_same (m := l), asc_srt (tune_asc h.1)]
  · exact eqB_self l
  · intro x
    rw [List.mem_map]
    have key : ∀ z : Int × Int, 0 ≤ z.1 → z.1 ≤ 15 → spin 16 16 z = z := by
      intro z z0 z1
      unfold spin
      exact Prod.ext (by simp only; omega) rfl
    constructor
    · rintro ⟨z, hz, rfl⟩; rw [key z (h.2 z hz).1 (h.2 z hz).2]; exact hz
    · intro hx; exact ⟨x, hx, key x (h.2 x hx).1 (h.2 x hx).2⟩
theorem drT.in16 {l : List (Int × Int)} (h : drT l) : in16 l := ⟨h.1, fun x hx => ⟨(dr_mem h hx).1, (dr_mem h hx).2.1⟩⟩
def beatL : List (Int × Int) := [(1, 9), (5, 9), (9, 9)]
theorem beat_tune : tuneB beatL = true := by
  rw [tuneB_all]
  · rfl
  · intro k hk
    have hk3 : k < 3 := hk
    match k, hk3 with
    | 0, _ => exact ⟨⟨by decide, by decide⟩, ⟨by decide, by decide⟩, fun h => absurd h (by omega)⟩
    | 1, _ => exact ⟨⟨by decide, by decide⟩, ⟨by decide, by decide⟩, fun _ => rfl⟩
    | 2, _ => exact ⟨⟨by decide, by decide⟩, ⟨by decide, by decide⟩, fun _ => rfl⟩
theorem beat_yes : saB beatL 4 12 = true := by
  have hS : aroS beatL 4 12 = beatL := by rfl
  obtain ⟨e1, e2⟩ := aro_yes (l := beatL) (n := 4) (s := 12) ⟨beat_tune, by omega, by omega, by rw [hS]⟩
  rw [saB_at e1, e2, hS]
  exact eqB_self _
theorem beat_no : saB beatL 3 12 = false := by
  have hS : aroS beatL 3 12 = [(0, 9), (4, 9), (8, 9)] := by rfl
  obtain ⟨e1, e2⟩ := aro_yes (l := beatL) (n := 3) (s := 12) ⟨beat_tune, by omega, by omega, by rw [hS]; rfl⟩
  rw [saB_at e1, e2, hS]
  exact eqB_no (k := 0) (by decide) (fun h => absurd h.1 (by decide))
end Go.Proofs.Ytajlopigpppeaaa
