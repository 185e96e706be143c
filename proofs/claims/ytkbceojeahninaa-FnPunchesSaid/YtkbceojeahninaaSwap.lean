/- The program's and the reference's SwapOrder return the same for all lists and numbers. -/
import Derived.Test.YtkbceojeahninaaInts
import Derived.Test.YtkbceojeahninaaIn
import Derived.RegionTactic
import Derived.ChangeAlike
namespace Go.Proofs.Ytkbceojeahninaa
open Go.ChangeShapes Go.WideShapes Go.ChangeAt Go.RowKit
set_option linter.unusedVariables false

/-- The list with the part from a on, n long, turned around; and the state after k exchanges. -/
def revAt (L : List Int) (a n k t : Nat) : Int := if a ≤ t ∧ t < a + n ∧ (t < a + k ∨ a + n ≤ t + k) then gt L (a + (a + n - 1 - t)) else gt L t

theorem rev_step (L L' : List Int) (a k m t : Nat) (hkm : k < m) (han : a + (k + 1 + m) ≤ L.length) (hL : L'.length = L.length) (hM : ∀ t, t < L.length → gt L' t = revAt L a (k + 1 + m) k t) (ht : t < L.length) :
    gt ((L'.set (a + k) (gt L' (a + m))).set (a + m) (gt L' (a + k))) t = revAt L a (k + 1 + m) (k + 1) t := by
  have h1 := hM (a + k) (by omega)
  have h2 := hM (a + m) (by omega)
  have h3 := hM t ht
  unfold revAt at h1 h2 h3 ⊢
  rw [gt_set _ _ _ _ (by rw [List.length_set]; omega), gt_set _ _ _ _ (by omega)]
  rw [if_neg (by omega)] at h1 h2
  by_cases e1 : t = a + m
  · rw [if_pos e1, if_pos (by omega), h1]
    congr 1
    omega
  · rw [if_neg e1]
    by_cases e2 : t = a + k
    · rw [if_pos e2, if_pos (by omega), h2]
      congr 1
      omega
    · rw [if_neg e2, h3]
      by_cases e3 : a ≤ t ∧ t < a + (k + 1 + m) ∧ (t < a + k ∨ a + (k + 1 + m) ≤ t + k)
      · rw [if_pos e3, if_pos (by omega)]
      · rw [if_neg e3, if_neg (by omega)]
set_option maxHeartbeats 1000000 in
theorem reverse_any (e B g n0 c0 a n c : Nat) (L : List Int) (w : World) (hown : OwnI e B w (.slice (some ⟨g, 0, none⟩) n0 c0) L) (han : a + n ≤ L.length) (hn : 0 < n) (hl : L.length ≤ 1000000000) :
    Calls Try.prog 80 #[.slice (some ⟨g, a, none⟩) n c] w fun en w' => en = .returned (.tuple #[]) ∧
      ∃ L', L'.length = L.length ∧ (∀ t, t < L.length → gt L' t = revAt L a n n t) ∧ OwnI e B w' (.slice (some ⟨g, 0, none⟩) n0 c0) L' ∧ w.grownBy w' (some g) := by
  go_enter Try.func80, Try.ntmps80
  go_wp2
  go_loopw [2, 3] (fun i j wr => ∃ (k : Nat) (L' : List Int), i = .int .i64 k ∧ j = .int .i64 ((n : Int) - 1 - k) ∧ 2 * k ≤ n ∧ L'.length = L.length ∧ (∀ t, t < L.length → gt L' t = revAt L a n k t) ∧ OwnI e B wr (.slice (some ⟨g, 0, none⟩) n0 c0) L' ∧ w.grownBy wr (some g)) (fun i j _ => (intOf j - intOf i).toNat)
  case atStart => exact ⟨0, L, rfl, by simp, by omega, rfl, fun t ht => by unfold revAt; rw [if_neg (by omega)], hown, World.grownBy.refl _ _⟩
  case round =>
    obtain ⟨k, L', rfl, rfl, hk, hL, hM, ho, hg⟩ := hrel
    have HL := Lib.hid hL
    have HM := Lib.hid hM
    by_cases hlt : 2 * k + 1 < n
    · obtain ⟨g', he, _, _, hcl, hfr⟩ := ho.head (by omega)
      injection he with he
      injection he with he
      subst he
      obtain ⟨x, hx⟩ : ∃ x, x = gt L' (a + k) := ⟨_, rfl⟩
      obtain ⟨y, hy⟩ : ∃ y, y = gt L' (a + (n - 1 - k)) := ⟨_, rfl⟩
      have c1 := hcl (a + k) (by omega)
      have c2 := hcl (a + (n - 1 - k)) (by omega)
      rw [← hx] at c1
      rw [← hy] at c2
      have f1 := hfr (a + k)
      have f2 := hfr (a + (n - 1 - k))
      obtain ⟨m, hm⟩ : ∃ m, n = k + 1 + m := ⟨n - 1 - k, by omega⟩
      have em : (n : Int) - 1 - (k : Int) = (m : Int) := by omega
      have hkm : k < m := by omega
      have hmn : m < n := by omega
      rw [em]
      rw [show n - 1 - k = m from by omega] at c2 f2 hy
      have HN := Lib.hid hm
      have HX := Lib.hid hx
      have HY := Lib.hid hy
      have HO := Lib.hid ho
      clear hcl hfr hL hM ho hx hy em hown hm
      go_wp2
      go_region
      go_wp2
      go_roundw
      case rel =>
        have hO := HO.out
        have hs1 := hO.stored (a + k) y
        have hs2 := hs1.1.stored (a + m) x
        have hx := HX.out
        have hy := HY.out
        have hn := HN.out
        have hM := HM.out
        refine ⟨k + 1, (L'.set (a + k) y).set (a + m) x, by go_num, by rw [hn]; go_num, by omega, by rw [List.length_set, List.length_set]; exact HL.out, fun t ht => ?_, hs2.1, grown_drew (grown_trans hg (grown_trans hs1.2 hs2.2))⟩
        subst hx hy hn
        exact rev_step L L' a k m t (by omega) han HL.out hM ht
      case measure => simp [intOf]; omega
    · have hlt' : ¬ (k : Int) < (n : Int) - 1 - (k : Int) := by omega
      clear hL hM hown
      go_wp2
      go_end0
      refine ⟨rfl, L', HL.out, fun t ht => ?_, ho, hg⟩
      rw [HM.out t ht]
      unfold revAt
      by_cases e3 : a ≤ t ∧ t < a + n ∧ (t < a + k ∨ a + n ≤ t + k)
      · rw [if_pos e3, if_pos (by omega)]
      · rw [if_neg e3]
        by_cases e4 : a ≤ t ∧ t < a + n ∧ (t < a + n ∨ a + n ≤ t + n)
        · rw [if_pos e4]
          congr 1
          omega
        · rw [if_neg e4]

/-- What both return. -/
def swapOk (l : List Int) (i k : Int) : Prop := 0 ≤ i ∧ i ≤ k ∧ k < (l.length : Int)
instance (l : List Int) (i k : Int) : Decidable (swapOk l i k) := by unfold swapOk; infer_instance
def swapL (l : List Int) (i k : Nat) : List Int := (List.range l.length).map fun (t : Nat) => revAt l i (k + 1 - i) (k + 1 - i) t
theorem swapL_length (l : List Int) (i k : Nat) : (swapL l i k).length = l.length := by simp [swapL]
theorem gt_swapL (l : List Int) (i k t : Nat) (h : t < l.length) : gt (swapL l i k) t = revAt l i (k + 1 - i) (k + 1 - i) t := by
  unfold swapL
  simp [gt, List.getD, h]
def swapZ (l : List Int) (i k : Int) : List Int := if swapOk l i k then swapL l i.toNat k.toNat else l
theorem swapZ_length (l : List Int) (i k : Int) : (swapZ l i k).length = l.length := by
  unfold swapZ
  by_cases h : swapOk l i k
  · rw [if_pos h, swapL_length]
  · rw [if_neg h]
def swapB (l : List Int) (i k : Int) : Bool := decide (swapOk l i k)

set_option maxHeartbeats 1000000 in
theorem impl_Swap (A : Option Addr) (c : Nat) (l : List Int) (i k : Int) (w : World) (hrd : RdI w A l) (hl : l.length ≤ 1000000000) (hA : A = none → c = 0) :
    Calls Try.prog 41 #[.slice A l.length c, .int .i64 i, .int .i64 k] w (RetIB 3 w.heap.size (swapZ l i k) (swapB l i k) w) := by
  by_cases h : swapOk l i k
  · have HZ : Hid (swapZ l i k = swapL l i.toNat k.toNat) := if_pos h
    have HB : Hid (swapB l i k = true) := decide_eq_true h
    obtain ⟨h1, h2, h3⟩ := h
    obtain ⟨i, rfl⟩ := Int.eq_ofNat_of_zero_le h1
    obtain ⟨k, rfl⟩ := Int.eq_ofNat_of_zero_le (show 0 ≤ k by omega)
    have g1 : (0 : Int) ≤ k := by omega
    go_enter Try.func41, Try.ntmps41
    go_wp2_with fail
    refine (copyInts_any A c l w hrd hl hA).mono ?_
    rintro e w1 ⟨A1, c1, rfl, ho1, hc1, hm1, hn1, hr1, hb1⟩
    obtain ⟨g, rfl, hBg, hgl, hcl, hfr⟩ := ho1.head (by omega)
    clear hcl hfr hrd hr1 hA hn1
    go_wp2_with (first | (go_at_call 53; refine (wi_yes _ _ _ _ ?_).mono ?_; omega; rintro e w1 ⟨rfl, rfl⟩) | (go_at_call 53; refine (wi_no _ _ _ _ ?_).mono ?_; omega; rintro e w1 ⟨rfl, rfl⟩))
    refine (reverse_any 3 w.heap.size g l.length c1 i (k + 1 - i) (c1 - i) l w1 ho1 (by omega) (by omega) hl).mono ?_
    rintro e w2 ⟨rfl, L', hL, hM, ho2, hg2⟩
    have HL := Lib.hid hL
    have HM := Lib.hid hM
    have HO := Lib.hid ho2
    have HX : Hid (Below w.heap.size w w2) := hb1.trans (grown_Below hg2 hb1.size (fun q hq => by injection hq with hq; omega))
    clear hL hM ho2 hg2 ho1
    go_wp2
    go_ret2
    have hfin : L' = swapZ l i k := by
      rw [HZ.out]
      simp only [Int.toNat_natCast]
      exact ext_gt (by rw [HL.out, swapL_length]) (fun t ht => by rw [swapL_length] at ht; rw [HM.out t ht, gt_swapL l i k t ht])
    rw [HB.out, ← hfin]
    exact RetIB.mk HO.out HX.out
  · have HZ : Hid (swapZ l i k = l) := if_neg h
    have HB : Hid (swapB l i k = false) := decide_eq_false h
    unfold swapOk at h
    rw [HZ.out, HB.out]
    by_cases h1 : 0 ≤ k
    · by_cases h2 : k < (l.length : Int)
      · go_enter Try.func41, Try.ntmps41
        go_wp2_with fail
        refine (copyInts_any A c l w hrd hl hA).mono ?_
        rintro e w1 ⟨A1, c1, rfl, ho1, hc1, hm1, hn1, hr1, hb1⟩
        go_wp2_with (first | (go_at_call 53; refine (wi_yes _ _ _ _ ?_).mono ?_; omega; rintro e w1 ⟨rfl, rfl⟩) | (go_at_call 53; refine (wi_no _ _ _ _ ?_).mono ?_; omega; rintro e w1 ⟨rfl, rfl⟩))
        go_ret2
        exact RetIB.mk ho1 hb1
      · go_enter Try.func41, Try.ntmps41
        go_wp2_with fail
        refine (copyInts_any A c l w hrd hl hA).mono ?_
        rintro e w1 ⟨A1, c1, rfl, ho1, hc1, hm1, hn1, hr1, hb1⟩
        go_wp2_with (first | (go_at_call 53; refine (wi_yes _ _ _ _ ?_).mono ?_; omega; rintro e w1 ⟨rfl, rfl⟩) | (go_at_call 53; refine (wi_no _ _ _ _ ?_).mono ?_; omega; rintro e w1 ⟨rfl, rfl⟩))
        go_ret2
        exact RetIB.mk ho1 hb1
    · go_enter Try.func41, Try.ntmps41
      go_wp2_with fail
      refine (copyInts_any A c l w hrd hl hA).mono ?_
      rintro e w1 ⟨A1, c1, rfl, ho1, hc1, hm1, hn1, hr1, hb1⟩
      go_wp2_with (first | (go_at_call 53; refine (wi_yes _ _ _ _ ?_).mono ?_; omega; rintro e w1 ⟨rfl, rfl⟩) | (go_at_call 53; refine (wi_no _ _ _ _ ?_).mono ?_; omega; rintro e w1 ⟨rfl, rfl⟩))
      go_ret2
      exact RetIB.mk ho1 hb1
end Go.Proofs.Ytkbceojeahninaa
