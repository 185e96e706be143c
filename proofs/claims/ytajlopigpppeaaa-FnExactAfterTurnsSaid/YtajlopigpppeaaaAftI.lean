/- A wear after some turns: copies of a wear, the program and the reference. -/
import Derived.Test.YtajlopigpppeaaaWear2
import Derived.Test.YtajlopigpppeaaaStI
import Derived.RegionTactic
import Derived.Deep.RegionLaw
import Derived.ChangeAlike
import Derived.Deep.Cut
import Derived.IntWalk
namespace Go.Proofs.Ytajlopigpppeaaa
open Go.ChangeShapes Go.WideShapes Go.ChangeAt Go.RowKit
set_option linter.unusedVariables false
def aftV (l : List Int) (n t : Int) (i : Nat) : Int := if gt l i - n * t < 0 then 0 else gt l i - n * t
def aftOk (l : List Int) (n t : Int) : Prop := wearB l n = true ∧ 0 ≤ t ∧ t ≤ 1000
instance (l : List Int) (n t : Int) : Decidable (aftOk l n t) := inferInstanceAs (Decidable (_ ∧ _))
def aftL (l : List Int) (n t : Int) : List Int := if aftOk l n t then (List.range l.length).map (aftV l n t) else l
theorem aftL_no {l : List Int} {n t : Int} (h : ¬ aftOk l n t) : aftL l n t = l := if_neg h
theorem aftL_len (l : List Int) (n t : Int) : (aftL l n t).length = l.length := by
  unfold aftL; split <;> simp
theorem aftL_yes {l L : List Int} {n t : Int} (h : aftOk l n t) (hl : L.length = l.length) (hM : ∀ i, i < l.length → gt L i = aftV l n t i) : L = aftL l n t := by
  have e : aftL l n t = (List.range l.length).map (aftV l n t) := if_pos h
  rw [e]
  refine ext_gt (by simp [hl]) fun i hi => ?_
  simp only [List.length_map, List.length_range] at hi
  rw [hM i hi]
  simp [gt, hi]
theorem aft_rng {l : List Int} {n t : Int} (h : aftOk l n t) {i : Nat} (hi : i < l.length) : (0 ≤ gt l i ∧ gt l i ≤ 1000) ∧ (1 ≤ n ∧ n ≤ 20) ∧ l.length ≤ 100 ∧ (0 ≤ n * t ∧ n * t ≤ 20000) := by
  have hw : wearOk l n := of_decide_eq_true h.1
  refine ⟨hw.2.2 i hi, hw.2.1, hw.1, ?_⟩
  have h1 := hw.2.1
  have h2 := h.2
  constructor
  · exact Int.mul_nonneg (by omega) h2.1
  · calc n * t ≤ 20 * t := Int.mul_le_mul_of_nonneg_right (by omega) h2.1
      _ ≤ 20000 := by omega
set_option maxHeartbeats 800000 in
theorem copyWear_any (A : Option Addr) (c : Nat) (l : List Int) (n : Int) (w : World) (hrd : RdI w A l) (hl : l.length ≤ 1000000000) (hA : A = none → c = 0) :
    Calls Try.prog 77 #[.agg #[.slice A l.length c, .int .i64 n]] w (RetW 3 w.heap.size l n w) := by
  obtain ⟨W, hW⟩ : ∃ W, W = (w.alloc (.cells #[.slice A l.length c, .int .i64 n] 56)).alloc (.cells #[.slice none 0 0, .int .i64 0] 56) := ⟨_, rfl⟩
  have hrdW : RdI W A l := by rw [hW]; exact ird_alloc (ird_alloc hrd _) _
  have hbW : Below w.heap.size w W := by rw [hW]; exact ((Below.refl _ _).alloc (Nat.le_refl _) _).alloc (by simp) _
  have hsW : W.heap.size = w.heap.size + 2 := by rw [hW]; simp
  have hcW : W.cell? ⟨w.heap.size, 0, none⟩ = some (.slice A l.length c) ∧ W.cell? ⟨w.heap.size, 1, none⟩ = some (.int .i64 n) ∧ W.cell? ⟨w.heap.size + 1, 0, none⟩ = some (.slice none 0 0) ∧ W.cell? ⟨w.heap.size + 1, 1, none⟩ = some (.int .i64 0) := by
    rw [hW]; exact ⟨by simp [go_sem], by simp [go_sem], by simp [go_sem], by simp [go_sem]⟩
  have hfW : W.frozen? ⟨w.heap.size, 0, none⟩ = false ∧ W.frozen? ⟨w.heap.size + 1, 0, none⟩ = false ∧ W.frozen? ⟨w.heap.size + 1, 1, none⟩ = false := by
    rw [hW]; exact ⟨by simp [go_sem], by simp [go_sem], by simp [go_sem]⟩
  have HW := Lib.hid hW
  clear hW
  go_enter Try.func77, Try.ntmps77
  go_wp2_with fail
  rw [← HW.out]
  refine (copyInts_any A c l W hrdW hl hA).mono ?_
  rintro e w1 ⟨A1, c1, rfl, ho, hc1, hm1, hn1, hr1, hb1⟩
  have k1 := (hb1.cell (p := ⟨w.heap.size, 0, none⟩) (by show w.heap.size < _; omega)).trans hcW.1
  have k2 := (hb1.cell (p := ⟨w.heap.size, 1, none⟩) (by show w.heap.size < _; omega)).trans hcW.2.1
  have k3 := (hb1.cell (p := ⟨w.heap.size + 1, 0, none⟩) (by show w.heap.size + 1 < _; omega)).trans hcW.2.2.1
  have k4 := (hb1.cell (p := ⟨w.heap.size + 1, 1, none⟩) (by show w.heap.size + 1 < _; omega)).trans hcW.2.2.2
  have f1 := (hb1.frozen (p := ⟨w.heap.size, 0, none⟩) (by show w.heap.size < _; omega)).trans hfW.1
  have f3 := (hb1.frozen (p := ⟨w.heap.size + 1, 0, none⟩) (by show w.heap.size + 1 < _; omega)).trans hfW.2.1
  have f4 := (hb1.frozen (p := ⟨w.heap.size + 1, 1, none⟩) (by show w.heap.size + 1 < _; omega)).trans hfW.2.2
  have z1 : w.heap.size + 1 < w1.heap.size := by have := hb1.size; omega
  have HO : Hid (OwnI 3 (w.heap.size + 2) w1 (.slice A1 l.length c1) l) := by unfold Hid; rw [← hsW]; exact ho
  have HB : Hid (Below w.heap.size w w1) := hbW.trans (hb1.mono (by omega))
  clear ho hr1 hb1 hbW hsW hcW hfW hrd hrdW hn1 hc1 hm1
  go_wp2
  refine bodyPost_ret (v := .agg #[.slice A1 l.length c1, .int .i64 n]) (by simp [results, Try.results77, go_sem, k3, k4]) rfl (RetW.mk (OwnI.base_le (B := w.heap.size + 2) ?_ (by omega)) ?_)
  · exact ((HO.out.setBelow (by show w.heap.size < _; omega) _).setBelow (by show w.heap.size + 1 < _; omega) _).setBelow (by show w.heap.size + 1 < _; omega) _
  · exact ((HB.out.setCell (by show _ ≤ w.heap.size; omega) _).setCell (by show _ ≤ w.heap.size + 1; omega) _).setCell (by show _ ≤ w.heap.size + 1; omega) _
theorem hd4f_start {w v : World} {p1 p2 p3 p4 : Addr} {u1 u2 u3 u4 : Value} (h1 : w.cell? p1 = some u1) (h2 : w.cell? p2 = some u2) (h3 : w.cell? p3 = some u3) (h4 : w.cell? p4 = some u4) (h5 : w.frozen? p3 = false) (h6 : w.frozen? p4 = false) (hv : v = w.drew) :
    v.cell? p1 = some u1 ∧ v.cell? p2 = some u2 ∧ v.cell? p3 = some u3 ∧ v.cell? p4 = some u4 ∧ v.frozen? p3 = false ∧ v.frozen? p4 = false ∧ Below w.heap.size w v := by
  subst hv
  exact ⟨h1, h2, h3, h4, h5, h6, (Below.refl _ _).drew⟩
theorem hd4f_keepC {w v u : World} {b1 b2 : Nat} {o1 o2 o3 o4 : Nat} {u1 u2 u3 u4 : Value} (l1 : b1 < w.heap.size) (l2 : b2 < w.heap.size)
    (h : v.cell? ⟨b1, o1, none⟩ = some u1 ∧ v.cell? ⟨b1, o2, none⟩ = some u2 ∧ v.cell? ⟨b2, o3, none⟩ = some u3 ∧ v.cell? ⟨b2, o4, none⟩ = some u4 ∧ v.frozen? ⟨b2, o3, none⟩ = false ∧ v.frozen? ⟨b2, o4, none⟩ = false ∧ Below w.heap.size w v) (hb : Below w.heap.size v u) :
    u.cell? ⟨b1, o1, none⟩ = some u1 ∧ u.cell? ⟨b1, o2, none⟩ = some u2 ∧ u.cell? ⟨b2, o3, none⟩ = some u3 ∧ u.cell? ⟨b2, o4, none⟩ = some u4 ∧ u.frozen? ⟨b2, o3, none⟩ = false ∧ u.frozen? ⟨b2, o4, none⟩ = false ∧ Below w.heap.size w u := by
  obtain ⟨h1, h2, h3, h4, h5, h6, h0⟩ := h
  exact ⟨(hb.cell (p := ⟨b1, o1, none⟩) l1).trans h1, (hb.cell (p := ⟨b1, o2, none⟩) l1).trans h2, (hb.cell (p := ⟨b2, o3, none⟩) l2).trans h3, (hb.cell (p := ⟨b2, o4, none⟩) l2).trans h4, (hb.frozen (p := ⟨b2, o3, none⟩) l2).trans h5, (hb.frozen (p := ⟨b2, o4, none⟩) l2).trans h6, h0.trans hb⟩
theorem hd4f_keep {w v u : World} {b1 b2 : Nat} {o1 o2 o3 o4 : Nat} {u1 u2 u3 u4 : Value} (l1 : b1 < w.heap.size) (l2 : b2 < w.heap.size)
    (h : v.cell? ⟨b1, o1, none⟩ = some u1 ∧ v.cell? ⟨b1, o2, none⟩ = some u2 ∧ v.cell? ⟨b2, o3, none⟩ = some u3 ∧ v.cell? ⟨b2, o4, none⟩ = some u4 ∧ v.frozen? ⟨b2, o3, none⟩ = false ∧ v.frozen? ⟨b2, o4, none⟩ = false ∧ Below w.heap.size w v) (hb : Below v.heap.size v u) :
    u.cell? ⟨b1, o1, none⟩ = some u1 ∧ u.cell? ⟨b1, o2, none⟩ = some u2 ∧ u.cell? ⟨b2, o3, none⟩ = some u3 ∧ u.cell? ⟨b2, o4, none⟩ = some u4 ∧ u.frozen? ⟨b2, o3, none⟩ = false ∧ u.frozen? ⟨b2, o4, none⟩ = false ∧ Below w.heap.size w u :=
  hd4f_keepC l1 l2 h (hb.mono h.2.2.2.2.2.2.size)
theorem hd4f_bel {w v : World} {b1 b2 : Nat} {o1 o2 o3 o4 : Nat} {u1 u2 u3 u4 : Value}
    (h : v.cell? ⟨b1, o1, none⟩ = some u1 ∧ v.cell? ⟨b1, o2, none⟩ = some u2 ∧ v.cell? ⟨b2, o3, none⟩ = some u3 ∧ v.cell? ⟨b2, o4, none⟩ = some u4 ∧ v.frozen? ⟨b2, o3, none⟩ = false ∧ v.frozen? ⟨b2, o4, none⟩ = false ∧ Below w.heap.size w v) : Below w.heap.size w v := h.2.2.2.2.2.2
set_option maxHeartbeats 800000 in
theorem l25Copy_any (A : Option Addr) (c : Nat) (l : List Int) (n : Int) (w : World) (hrd : RdI w A l) (hl : l.length ≤ 1000000000) (hA : A = none → c = 0) :
    Calls Try.prog 74 #[.agg #[.slice A l.length c, .int .i64 n]] w (RetW 3 w.heap.size l n w) := by
  obtain ⟨W, hW⟩ : ∃ W, W = (w.alloc (.cells #[.slice A l.length c, .int .i64 n] 56)).alloc (.cells #[.slice none 0 0, .int .i64 0] 56) := ⟨_, rfl⟩
  have hrdW : RdI W A l := by rw [hW]; exact ird_alloc (ird_alloc hrd _) _
  have hbW : Below w.heap.size w W := by rw [hW]; exact ((Below.refl _ _).alloc (Nat.le_refl _) _).alloc (by simp) _
  have hsW : W.heap.size = w.heap.size + 2 := by rw [hW]; simp
  have x1 : W.cell? ⟨w.heap.size, 0, none⟩ = some (.slice A l.length c) := by rw [hW]; simp [go_sem]
  have x2 : W.cell? ⟨w.heap.size, 1, none⟩ = some (.int .i64 n) := by rw [hW]; simp [go_sem]
  have x3 : W.cell? ⟨w.heap.size + 1, 0, none⟩ = some (.slice none 0 0) := by rw [hW]; simp [go_sem]
  have x4 : W.cell? ⟨w.heap.size + 1, 1, none⟩ = some (.int .i64 0) := by rw [hW]; simp [go_sem]
  have f3 : W.frozen? ⟨w.heap.size + 1, 0, none⟩ = false := by rw [hW]; simp [go_sem]
  have f4 : W.frozen? ⟨w.heap.size + 1, 1, none⟩ = false := by rw [hW]; simp [go_sem]
  have HW := Lib.hid hW
  have q1 : w.heap.size < W.heap.size := by omega
  have q2 : w.heap.size + 1 < W.heap.size := by omega
  clear hW
  go_enter Try.func74, Try.ntmps74
  go_upto_region 1 with (fail)
  rw [← HW.out]
  rcases A with _ | ad
  · obtain rfl : c = 0 := hA rfl
    have hl0 : l = [] := by
      cases l with
      | nil => rfl
      | cons x m => obtain ⟨b, off, h, _⟩ := hrd (by simp); cases h
    subst hl0
    have hsz : ∀ u v : Value, ((W.setCell ⟨w.heap.size + 1, 0, none⟩ u).setCell ⟨w.heap.size + 1, 1, none⟩ v).heap.size = W.heap.size := fun u v => by simp
    have HSZ := Lib.hid hsz
    have HSW := Lib.hid hsW
    have HB := Lib.hid hbW
    have HQ1 := Lib.hid q1
    clear hsW hsz hbW
    obtain ⟨W2, hW2⟩ : ∃ W2, W2 = (W.setCell ⟨w.heap.size + 1, 0, none⟩ (.slice (some ⟨W.heap.size, 0, none⟩) 0 0)).setCell ⟨w.heap.size + 1, 1, none⟩ (.int .i64 n) := ⟨_, rfl⟩
    have hs2 : W2.heap.size = W.heap.size := by rw [hW2]; exact HSZ.out _ _
    have y3 : W2.cell? ⟨w.heap.size + 1, 0, none⟩ = some (.slice (some ⟨W.heap.size, 0, none⟩) 0 0) := by rw [hW2]; simp [go_sem, x3]
    have y4 : W2.cell? ⟨w.heap.size + 1, 1, none⟩ = some (.int .i64 n) := by rw [hW2]; simp [go_sem, x4]
    have hB2 : Below w.heap.size w W2 := by rw [hW2]; exact (HB.out.setCell (by show _ ≤ w.heap.size + 1; omega) _).setCell (by show _ ≤ w.heap.size + 1; omega) _
    obtain ⟨W3, hW3⟩ : ∃ W3, W3 = (W2.alloc (.cells #[] 3)).drew := ⟨_, rfl⟩
    have hb23 : Below W2.heap.size W2 W3 := by rw [hW3]; exact ((Below.refl _ _).alloc (Nat.le_refl _) _).drew
    have z3 := (hb23.cell (p := ⟨w.heap.size + 1, 0, none⟩) (by show w.heap.size + 1 < _; omega)).trans y3
    have z4 := (hb23.cell (p := ⟨w.heap.size + 1, 1, none⟩) (by show w.heap.size + 1 < _; omega)).trans y4
    have ho3 : OwnI 3 W.heap.size W3 (.slice (some ⟨W.heap.size, 0, none⟩) ([] : List Int).length 0) [] := by
      have h := OwnI.lit0 W2 3
      rw [hs2] at h
      rw [hW3]
      exact h
    have HO := Lib.hid (ho3.base_le (Nat.le_of_lt HQ1.out))
    have HB3 := Lib.hid (hB2.trans (hb23.mono hB2.size))
    have HW3 := Lib.hid (hW3.trans (by rw [hW2]))
    clear hs2 y3 y4 hB2 hb23 ho3 hW3 hW2
    go_region
    rw [← HW3.out]
    go_wp2
    exact bodyPost_ret (v := .agg #[.slice (some ⟨W.heap.size, 0, none⟩) ([] : List Int).length 0, .int .i64 n]) (by simp [results, Try.results74, go_sem, z3, z4]) rfl (RetW.mk HO.out HB3.out)
  · have HSW := Lib.hid hsW
    clear hsW
    go_region_law ((refine step_app_ints rfl (.tmp 3) (.tmp 5) _ rfl 3 Try.underlying24 (by kernel_rfl) W.heap.size _ _ _ l.length [] l (some ad) c rfl rfl rfl rfl rfl (by first | exact OwnI.lit0 W _ | exact (OwnI.lit0 W _).alloc _ | exact iown_drew (OwnI.lit0 W _)) (hrdW.below (show Below W.heap.size W _ from (by first | exact ((Below.refl _ _).alloc (Nat.le_refl _) _).drew | exact (Below.refl _ _).drew.alloc (Nat.le_refl _) _ | exact (Below.refl _ _).alloc (Nat.le_refl _) _)) rfl) (by simp; omega) (Below.size (show Below W.heap.size W _ from (by first | exact ((Below.refl _ _).alloc (Nat.le_refl _) _).drew | exact (Below.refl _ _).drew.alloc (Nat.le_refl _) _ | exact (Below.refl _ _).alloc (Nat.le_refl _) _))) ?_; intro g1 c1 w1 hown1 hbn1 hgr1; have hbW1 : Below W.heap.size W w1 := Below.trans (by first | exact ((Below.refl _ _).alloc (Nat.le_refl _) _).drew | exact (Below.refl _ _).drew.alloc (Nat.le_refl _) _ | exact (Below.refl _ _).alloc (Nat.le_refl _) _) hbn1; have y1 := (hbW1.cell (p := ⟨w.heap.size, 0, none⟩) q1).trans x1; have y2 := (hbW1.cell (p := ⟨w.heap.size, 1, none⟩) q1).trans x2; have y3 := (hbW1.cell (p := ⟨w.heap.size + 1, 0, none⟩) q2).trans x3; have y4 := (hbW1.cell (p := ⟨w.heap.size + 1, 1, none⟩) q2).trans x4; have g3 := (hbW1.frozen (p := ⟨w.heap.size + 1, 0, none⟩) q2).trans f3; have g4 := (hbW1.frozen (p := ⟨w.heap.size + 1, 1, none⟩) q2).trans f4))
    all_goals
      have HO := Lib.hid (show OwnI 3 W.heap.size w1 (.slice (some ⟨g1, 0, none⟩) l.length c1) l by simpa using hown1)
      have HB := Lib.hid (hbW.trans (hbW1.mono (Nat.le_of_lt q1)))
      have HQ1 := Lib.hid q1
      have HQ2 := Lib.hid q2
      clear hown1 hbn1 hgr1 hbW1 hbW
      go_wp2
      refine bodyPost_ret (v := .agg #[.slice (some ⟨g1, 0, none⟩) l.length c1, .int .i64 n]) (by simp [results, Try.results74, go_sem, y3, y4]) rfl (RetW.mk (OwnI.base_le (B := W.heap.size) ?_ (Nat.le_of_lt HQ1.out)) ?_)
      · exact (HO.out.setBelow (by show w.heap.size + 1 < _; exact HQ2.out) _).setBelow (by show w.heap.size + 1 < _; exact HQ2.out) _
      · exact (HB.out.setCell (by show _ ≤ w.heap.size + 1; omega) _).setCell (by show _ ≤ w.heap.size + 1; omega) _
attribute [local irreducible] gt wearB aftV aftL in
set_option maxHeartbeats 3200000 in
theorem impl_After (A : Option Addr) (c : Nat) (l : List Int) (n t : Int) (w : World) (hrd : RdI w A l) (hl : l.length ≤ 1000000000) (hA : A = none → c = 0) :
    Calls Try.prog 44 #[.agg #[.slice A l.length c, .int .i64 n], .int .i64 t] w (RetW 3 w.heap.size (aftL l n t) n w) := by
  obtain ⟨W, hW⟩ : ∃ W, W = (w.alloc (.cells #[.slice A l.length c, .int .i64 n] 56)).alloc (.cells #[.slice none 0 0, .int .i64 0] 56) := ⟨_, rfl⟩
  have hbW : Below w.heap.size w W := by rw [hW]; exact ((Below.refl _ _).alloc (Nat.le_refl _) _).alloc (by simp) _
  have hrdW : RdI W A l := hrd.below hbW rfl
  have hsW : W.heap.size = w.heap.size + 2 := by rw [hW]; simp
  have x1 : W.cell? ⟨w.heap.size, 0, none⟩ = some (.slice A l.length c) := by rw [hW]; simp [go_sem]
  have x2 : W.cell? ⟨w.heap.size, 1, none⟩ = some (.int .i64 n) := by rw [hW]; simp [go_sem]
  have x3 : W.cell? ⟨w.heap.size + 1, 0, none⟩ = some (.slice none 0 0) := by rw [hW]; simp [go_sem]
  have x4 : W.cell? ⟨w.heap.size + 1, 1, none⟩ = some (.int .i64 0) := by rw [hW]; simp [go_sem]
  have f3 : W.frozen? ⟨w.heap.size + 1, 0, none⟩ = false := by rw [hW]; simp [go_sem]
  have f4 : W.frozen? ⟨w.heap.size + 1, 1, none⟩ = false := by rw [hW]; simp [go_sem]
  have HW := Lib.hid hW
  have HSW := Lib.hid hsW
  have q1 : w.heap.size < W.heap.size := by omega
  have q2 : w.heap.size + 1 < W.heap.size := by omega
  clear hW hsW hrd
  have HNO := Lib.hid (fun (h : ¬ aftOk l n t) => aftL_no h)
  have HYES := Lib.hid (fun (L : List Int) (h : aftOk l n t) h1 h2 => aftL_yes (L := L) h h1 h2)
  have HLL := Lib.hid (aftL_len l n t)
  have HRG := Lib.hid (fun (h : aftOk l n t) (i : Nat) hi => aft_rng h (i := i) hi)
  go_enter Try.func44, Try.ntmps44
  go_wp2_with fail
  rw [← HW.out]
  refine (copyWear_any A c l n W hrdW hl hA).mono ?_
  rintro e w1 ⟨A1, c1, rfl, ho1, hc1, hm1, hn1, hr1, hb1⟩
  obtain ⟨V, hV⟩ : ∃ V, V = w1.alloc (.cells #[.slice A1 l.length c1, .int .i64 n] 56) := ⟨_, rfl⟩
  have hbV : Below w1.heap.size w1 V := by rw [hV]; exact (Below.refl _ _).alloc (Nat.le_refl _) _
  have v1 : V.cell? ⟨w1.heap.size, 0, none⟩ = some (.slice A1 l.length c1) := by rw [hV]; simp [go_sem]
  have v2 : V.cell? ⟨w1.heap.size, 1, none⟩ = some (.int .i64 n) := by rw [hV]; simp [go_sem]
  have vs : w1.heap.size < V.heap.size := by rw [hV]; simp
  have HV := Lib.hid hV
  have hb1s := hb1.size
  have hbWV : Below W.heap.size W V := hb1.trans (hbV.mono hb1s)
  have hoV := ho1.below hbV rfl
  have HBLK := Lib.hid (fun q (hq : (Value.slice A1 l.length c1).ownBlock = some q) => ho1.blk q hq)
  have hvs := hbWV.size
  have t1 := (hbWV.cell (p := ⟨w.heap.size, 0, none⟩) q1).trans x1
  have t2 := (hbWV.cell (p := ⟨w.heap.size, 1, none⟩) q1).trans x2
  have hrdV := hrdW.below hbWV rfl
  clear hV hbV hr1 hb1 ho1 hn1
  go_upto_region 2 with (fail)
  rw [← HV.out]
  go_wp2_with fail
  refine (impl_WearOk _ _ _ _ _ hrdV hl).mono ?_
  rintro e w2 ⟨rfl, hb2⟩
  have hbW2 := hbWV.trans (hb2.mono hvs)
  have ho2 := hoV.below hb2 rfl
  have hb2s := hb2.size
  have z1 := (hbW2.cell (p := ⟨w.heap.size, 0, none⟩) q1).trans x1
  have z2 := (hbW2.cell (p := ⟨w.heap.size, 1, none⟩) q1).trans x2
  have z3 := (hbW2.cell (p := ⟨w.heap.size + 1, 0, none⟩) q2).trans x3
  have z4 := (hbW2.cell (p := ⟨w.heap.size + 1, 1, none⟩) q2).trans x4
  have zf3 := (hbW2.frozen (p := ⟨w.heap.size + 1, 0, none⟩) q2).trans f3
  have zf4 := (hbW2.frozen (p := ⟨w.heap.size + 1, 1, none⟩) q2).trans f4
  have z5 := (hb2.cell (p := ⟨w1.heap.size, 0, none⟩) vs).trans v1
  have z6 := (hb2.cell (p := ⟨w1.heap.size, 1, none⟩) vs).trans v2
  have hbF : Below w.heap.size w w2 := hbW.trans (hbW2.mono (Nat.le_of_lt q1))
  have nlt1 : w.heap.size + 1 < w2.heap.size := by have := hbW2.size; omega
  have nlt2 : w1.heap.size < w2.heap.size := by omega
  have ne1 : w1.heap.size ≠ w.heap.size + 1 := by omega
  have ne2 : w.heap.size + 1 ≠ w1.heap.size := by omega
  have ne3 : w.heap.size + 1 ≠ w.heap.size := by omega
  clear t1 t2 v1 v2 hb2 hoV hbWV
  by_cases hok : aftOk l n t
  · have HOK := Lib.hid hok
    have hok1 := hok.1
    have hok2 := hok.2
    have HB := Lib.hid hok1
    have HT := Lib.hid hok2
    clear hok hok1 hok2
    rw [HB.out]
    go_wp2_with fail
    refine (wi_yes _ _ _ _ HT.out).mono ?_
    rintro e wz ⟨rfl, rfl⟩
    go_wp2
    go_loopw [21] (fun i wr => ∃ (k : Nat) (L : List Int), k ≤ l.length ∧ i = .int .i64 k ∧ L.length = l.length ∧ (∀ j, j < l.length → gt L j = if j < k then aftV l n t j else gt l j) ∧ OwnI 3 W.heap.size wr (.slice A1 l.length c1) L ∧ w2.grownBy wr (Value.slice A1 l.length c1).ownBlock) (fun i _ => l.length - (intOf i).toNat)
    case atStart => exact ⟨0, l, by omega, rfl, rfl, fun j hj => by rw [if_neg (by omega)], ho2, World.grownBy.refl _ _⟩
    case round =>
      obtain ⟨k, L, hk, rfl, hL, hM, ho, hg⟩ := hrel
      have HL := Lib.hid hL
      have HM := Lib.hid hM
      have hbr : Below W.heap.size W wr := hbW2.trans (grown_Below hg hbW2.size (fun q hq => (ho.blk q hq).1))
      have hrs := hbr.size
      have hbrF := hbW.trans (hbr.mono (Nat.le_of_lt q1))
      have hne : ∀ q, (Value.slice A1 l.length c1).ownBlock = some q → q ≠ w1.heap.size := fun q hq h => by have := (HBLK.out q hq).2; omega
      have r1 := (hbr.cell (p := ⟨w.heap.size, 0, none⟩) q1).trans x1
      have r2 := (hbr.cell (p := ⟨w.heap.size, 1, none⟩) q1).trans x2
      have r5 : wr.cell? ⟨w1.heap.size, 0, none⟩ = some (.slice A1 l.length c1) := hg.cell z5 (by
        intro h
        exact hne _ h.symm rfl)
      have r6 : wr.cell? ⟨w1.heap.size, 1, none⟩ = some (.int .i64 n) := hg.cell z6 (by
        intro h
        exact hne _ h.symm rfl)
      clear hL hM hne
      by_cases hlt : k < l.length
      · obtain ⟨h1, h2, h3, h4⟩ := HRG.out HOK.out k hlt
        obtain ⟨g, rfl, hgW, hgl, hcg, hfg⟩ := ho.head (by rw [HL.out]; omega)
        have hLk : gt L k = gt l k := by rw [HM.out k hlt, if_neg (by omega)]
        have d1 := hcg k (by rw [HL.out]; exact hlt)
        rw [hLk] at d1
        have df := hfg k
        have h0i : (0 : Int) ≤ (k : Int) := by omega
        have h0j : (k : Int) < (l.length : Int) := by omega
        have HAV := Lib.hid (show aftV l n t k = if gt l k - n * t < 0 then 0 else gt l k - n * t by unfold aftV; rfl)
        obtain ⟨M, hMM⟩ : ∃ M, M = n * t := ⟨_, rfl⟩
        have HAV := HAV.out
        rw [← hMM] at HAV h4
        have hwm : IntKind.i64.wrap (n * t) = M := by rw [hMM]; skip; exact IntWalk.i64_in _ (by omega)
        have hws : IntKind.i64.wrap (gt l k - M) = gt l k - M := IntWalk.i64_in _ (by omega)
        obtain ⟨b, o, rfl, lb, hcA⟩ := hrdW (by omega)
        have d2 := (hbr.cell (p := ⟨b, o + k, none⟩) lb).trans (hcA k hlt)
        have gne1 : g ≠ w1.heap.size := fun h => by have := (HBLK.out g rfl).2; omega
        have HMM := Lib.hid hMM
        clear hcg hfg hcA hMM hLk
        by_cases hneg : ¬ M < gt l k
        · skip
          have hst := ho.stored k (0)
          have HO := Lib.hid hst.1
          have HG := Lib.hid (grown_drew (grown_trans hg hst.2))
          have HV2 := Lib.hid (show aftV l n t k = 0 by rw [HAV]; split <;> omega)
          clear hst HAV
          go_wp2
          go_region
          go_wp2
          go_roundw
          case rel =>
            refine ⟨k + 1, L.set k (0), by omega, by go_num, by rw [List.length_set]; exact HL.out, fun j hj => ?_, HO.out, HG.out⟩
            rw [gt_set _ _ _ _ (by rw [HL.out]; exact hlt)]
            by_cases e : j = k
            · rw [if_pos e, if_pos (by omega), e]; exact HV2.out.symm
            · rw [if_neg e, HM.out j hj]
              by_cases e2 : j < k
              · rw [if_pos e2, if_pos (by omega)]
              · rw [if_neg e2, if_neg (by omega)]
          case measure => simp [intOf]; omega
        · have hneg2 : M < gt l k := by omega
          have hst := ho.stored k (gt l k - M)
          have HO := Lib.hid hst.1
          have HG := Lib.hid (grown_drew (grown_trans hg hst.2))
          have HV2 := Lib.hid (show aftV l n t k = gt l k - M by rw [HAV]; split <;> omega)
          clear hst HAV
          go_wp2
          go_region
          go_wp2
          go_roundw
          case rel =>
            refine ⟨k + 1, L.set k (gt l k - M), by omega, by go_num, by rw [List.length_set]; exact HL.out, fun j hj => ?_, HO.out, HG.out⟩
            rw [gt_set _ _ _ _ (by rw [HL.out]; exact hlt)]
            by_cases e : j = k
            · rw [if_pos e, if_pos (by omega), e]; exact HV2.out.symm
            · rw [if_neg e, HM.out j hj]
              by_cases e2 : j < k
              · rw [if_pos e2, if_pos (by omega)]
              · rw [if_neg e2, if_neg (by omega)]
          case measure => simp [intOf]; omega
      · obtain rfl : k = l.length := by omega
        have r3 := (hbr.cell (p := ⟨w.heap.size + 1, 0, none⟩) q2).trans x3
        have r4 := (hbr.cell (p := ⟨w.heap.size + 1, 1, none⟩) q2).trans x4
        have rf3 := (hbr.frozen (p := ⟨w.heap.size + 1, 0, none⟩) q2).trans f3
        have rf4 := (hbr.frozen (p := ⟨w.heap.size + 1, 1, none⟩) q2).trans f4
        have rlt : w.heap.size + 1 < wr.heap.size := by omega
        have HLV := Lib.hid (HYES.out L HOK.out HL.out (fun j hj => by rw [HM.out j hj, if_pos hj]))
        have HO := Lib.hid ho
        have HBF := Lib.hid hbrF
        clear ho hbrF hbr hg
        go_wp2
        refine bodyPost_ret (v := .agg #[.slice A1 l.length c1, .int .i64 n]) (by simp [results, Try.results44, go_sem, r3, r4]) rfl (RetW.mk (OwnI.base_le (B := W.heap.size) ?_ (Nat.le_of_lt q1)) ?_)
        · rw [← HLV.out]
          exact (HO.out.setBelow (by show w.heap.size + 1 < _; exact q2) _).setBelow (by show w.heap.size + 1 < _; exact q2) _
        · exact (HBF.out.setCell (by show _ ≤ w.heap.size + 1; omega) _).setCell (by show _ ≤ w.heap.size + 1; omega) _
  · have HF := Lib.hid (HNO.out hok)
    have HO := Lib.hid ho2
    have HBF := Lib.hid hbF
    cases hw : wearB l n
    · clear ho2 hbF hbW2 hok
      go_wp2
      refine bodyPost_ret (v := .agg #[.slice A1 l.length c1, .int .i64 n]) (by simp [results, Try.results44, go_sem, z3, z4]) rfl (RetW.mk (OwnI.base_le (B := W.heap.size) ?_ (Nat.le_of_lt q1)) ?_)
      · rw [HF.out]
        exact (HO.out.setBelow (by show w.heap.size + 1 < _; exact q2) _).setBelow (by show w.heap.size + 1 < _; exact q2) _
      · exact (HBF.out.setCell (by show _ ≤ w.heap.size + 1; omega) _).setCell (by show _ ≤ w.heap.size + 1; omega) _
    · have HT := Lib.hid (show ¬ (0 ≤ t ∧ t ≤ 1000) from fun h => hok ⟨hw, h⟩)
      clear ho2 hbF hbW2 hok
      go_wp2_with fail
      refine (wi_no _ _ _ _ HT.out).mono ?_
      rintro e wz ⟨rfl, rfl⟩
      go_wp2
      refine bodyPost_ret (v := .agg #[.slice A1 l.length c1, .int .i64 n]) (by simp [results, Try.results44, go_sem, z3, z4]) rfl (RetW.mk (OwnI.base_le (B := W.heap.size) ?_ (Nat.le_of_lt q1)) ?_)
      · rw [HF.out]
        exact (HO.out.setBelow (by show w.heap.size + 1 < _; exact q2) _).setBelow (by show w.heap.size + 1 < _; exact q2) _
      · exact (HBF.out.setCell (by show _ ≤ w.heap.size + 1; omega) _).setCell (by show _ ≤ w.heap.size + 1; omega) _
end Go.Proofs.Ytajlopigpppeaaa
