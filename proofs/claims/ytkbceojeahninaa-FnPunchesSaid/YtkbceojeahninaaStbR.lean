/- Exchange of two ranges and rotation, in place (slices.SortStableFunc). -/
import Derived.Test.YtkbceojeahninaaStbI
import Derived.Test.YtkbceojeahninaaStbM
namespace Go.Proofs.Ytkbceojeahninaa
open Go.ChangeShapes Go.WideShapes Go.ChangeAt Go.RowKit
set_option linter.unusedVariables false
theorem own_stored2 {e B g n c : Nat} {w wr : World} {L : List Int} (ho : OwnI e B wr (.slice (some ⟨g, 0, none⟩) n c) L) (hg : w.grownBy wr (some g)) (i j : Nat) (y x : Int) (q : Nat) :
    OwnI e B (((wr.drewN q).setCell ⟨g, i, none⟩ (.int .i64 y)).setCell ⟨g, j, none⟩ (.int .i64 x)) (.slice (some ⟨g, 0, none⟩) n c) ((L.set i y).set j x) ∧ w.grownBy (((wr.drewN q).setCell ⟨g, i, none⟩ (.int .i64 y)).setCell ⟨g, j, none⟩ (.int .i64 x)) (some g) :=
  And.intro (((show OwnI e B (wr.drewN q) (.slice (some ⟨g, 0, none⟩) n c) L from ho).stored i y).1.stored j x).1
    (grown_trans (grown_drewN hg q) (grown_trans ((show OwnI e B (wr.drewN q) (.slice (some ⟨g, 0, none⟩) n c) L from ho).stored i y).2 (((show OwnI e B (wr.drewN q) (.slice (some ⟨g, 0, none⟩) n c) L from ho).stored i y).1.stored j x).2))
theorem own_stored3 {e B g n c : Nat} {w wr : World} {L : List Int} (ho : OwnI e B wr (.slice (some ⟨g, 0, none⟩) n c) L) (hg : w.grownBy wr (some g)) (i j : Nat) (y x : Int) :
    OwnI e B (((wr.setCell ⟨g, i, none⟩ (.int .i64 y)).setCell ⟨g, j, none⟩ (.int .i64 x)).drew) (.slice (some ⟨g, 0, none⟩) n c) ((L.set i y).set j x) ∧ w.grownBy (((wr.setCell ⟨g, i, none⟩ (.int .i64 y)).setCell ⟨g, j, none⟩ (.int .i64 x)).drew) (some g) := by
  have h1 := ho.stored i y
  have h2 := h1.1.stored j x
  exact ⟨h2.1, grown_drewN (grown_trans hg (grown_trans h1.2 h2.2)) 1⟩
def SwrR (e B g m c a b n : Nat) (L : List Int) (w : World) (en : Ending) (w' : World) : Prop :=
  ∃ M, en = .returned (.tuple #[]) ∧ (∀ t, gt M t = srAt L a b n t) ∧ Sw a (b + n) L M ∧ OwnI e B w' (.slice (some ⟨g, 0, none⟩) m c) M ∧ w.grownBy w' (some g)
attribute [local irreducible] gt swp in
set_option maxHeartbeats 3200000 in
theorem swr_any (e B g c bx a b n : Nat) (L : List Int) (w : World) (hown : OwnI e B w (.slice (some ⟨g, 0, none⟩) L.length c) L) (hl : L.length ≤ 1000000) (hab : a + n ≤ b) (hb : b + n ≤ L.length) :
    Calls Try.prog 121 #[.slice (some ⟨g, 0, none⟩) L.length c, .int .i64 a, .int .i64 b, .int .i64 n, cloV bx] w (SwrR e B g L.length c a b n L w) := by
  have HZ := Lib.hid (fun t => (swz_zero L a b t).symm)
  go_enter Try.func121, Try.ntmps121
  go_wp2
  go_loopw [10] (fun v wr => ∃ (i : Nat) (M : List Int), v = .int .i64 i ∧ i ≤ n ∧ (∀ t, gt M t = srAt L a b i t) ∧ Sw a (b + n) L M ∧ OwnI e B wr (.slice (some ⟨g, 0, none⟩) L.length c) M ∧ w.grownBy wr (some g)) (fun v _ => n - (intOf v).toNat)
  case atStart => exact ⟨0, L, rfl, by omega, HZ.out, Sw.refl _ _ _, hown, World.grownBy.refl _ _⟩
  case round =>
    clear hown
    obtain ⟨i, M, rfl, hi, hM, hsw, ho, hg⟩ := hrel
    have HM := Lib.hid hM
    have HSW := Lib.hid hsw
    have HLN := Lib.hid hsw.1
    clear hM hsw
    by_cases hin : i < n
    · have hin2 : (i : Int) < (n : Int) := by omega
      obtain ⟨p, hp⟩ : ∃ p, p = a + i := ⟨_, rfl⟩
      obtain ⟨q, hq⟩ : ∃ q, q = b + i := ⟨_, rfl⟩
      obtain ⟨g', he, _, _, hcl, hfr⟩ := ho.head (by have := HLN.out; omega)
      injection he with he
      injection he with he
      subst he
      have c1 := hcl p (by have := HLN.out; omega)
      have c2 := hcl q (by have := HLN.out; omega)
      have f1 := hfr p
      have f2 := hfr q
      have h0a : (0 : Int) ≤ (p : Int) := by omega
      have h0b : (p : Int) < (L.length : Int) := by omega
      have h0c : (0 : Int) ≤ (q : Int) := by omega
      have h0d : (q : Int) < (L.length : Int) := by omega
      have HWp := Lib.hid (show IntKind.i64.wrap ((a : Int) + (i : Int)) = (p : Int) by rw [show ((a : Int) + (i : Int)) = (p : Int) by omega]; exact IntWalk.i64_in _ (by omega))
      have HWq := Lib.hid (show IntKind.i64.wrap ((b : Int) + (i : Int)) = (q : Int) by rw [show ((b : Int) + (i : Int)) = (q : Int) by omega]; exact IntWalk.i64_in _ (by omega))
      obtain ⟨x, hx⟩ : ∃ x, x = gt M p := ⟨_, rfl⟩
      obtain ⟨y, hy⟩ : ∃ y, y = gt M q := ⟨_, rfl⟩
      rw [← hx] at c1
      rw [← hy] at c2
      have hne : p ≠ q := by omega
      have HO := Lib.hid (own_stored3 ho hg p q y x)
      have HSP := Lib.hid (show (M.set p y).set q x = swp M p q by unfold swp; rw [← hx, ← hy])
      have HST := Lib.hid (show ∀ t, gt (swp M p q) t = srAt L a b (i + 1) t by rw [hp, hq]; exact swz_step (by omega) (by have := HLN.out; omega) HM.out)
      have HSN := Lib.hid (show Sw a (b + n) L (swp M p q) from HSW.out.trans (Sw.swap (by have := HLN.out; omega) (by omega) (by omega) (by omega) (by omega)))
      clear hcl hfr ho hg hx hy hp hq
      go_wp2_with fail
      have v1 := HWp.out
      have v2 := HWq.out
      go_region
      generalize hWv : World.drew (((wr.setCell _ _).setCell _ _)) = W2
      have ho2 : OwnI e B W2 (.slice (some ⟨g, 0, none⟩) L.length c) (swp M p q) := by rw [← hWv, ← HSP.out]; exact HO.out.1
      have hg2 : w.grownBy W2 (some g) := by rw [← hWv]; exact HO.out.2
      clear hWv v1 v2 c1 c2 f1 f2
      go_wp2
      go_roundw
      case rel => exact ⟨i + 1, swp M p q, by go_num, by omega, HST.out, HSN.out, ho2, hg2⟩
      case measure => simp [intOf]; omega
    · obtain rfl : i = n := by omega
      go_wp2
      go_end0
      exact ⟨M, rfl, HM.out, HSW.out, ho, hg⟩
theorem swr_n (e B g c bx a b n N : Nat) (L : List Int) (w : World) (hN : L.length = N) (hown : OwnI e B w (.slice (some ⟨g, 0, none⟩) N c) L) (hl : N ≤ 1000000) (hab : a + n ≤ b) (hb : b + n ≤ N) :
    Calls Try.prog 121 #[.slice (some ⟨g, 0, none⟩) N c, .int .i64 a, .int .i64 b, .int .i64 n, cloV bx] w (SwrR e B g N c a b n L w) := by
  subst hN
  exact swr_any e B g c bx a b n L w hown hl hab hb
def RotR (e B g m c a q b : Nat) (L : List Int) (w : World) (en : Ending) (w' : World) : Prop :=
  ∃ M, en = .returned (.tuple #[]) ∧ (∀ t, gt M t = rotAt L a q b t) ∧ Sw a b L M ∧ OwnI e B w' (.slice (some ⟨g, 0, none⟩) m c) M ∧ w.grownBy w' (some g)
attribute [local irreducible] gt swp in
set_option maxHeartbeats 3200000 in
theorem rot_any (e B g c bx a m b : Nat) (L : List Int) (w : World) (hown : OwnI e B w (.slice (some ⟨g, 0, none⟩) L.length c) L) (hl : L.length ≤ 1000000) (ham : a < m) (hmb : m < b) (hb : b ≤ L.length) :
    Calls Try.prog 118 #[.slice (some ⟨g, 0, none⟩) L.length c, .int .i64 a, .int .i64 m, .int .i64 b, cloV bx] w (RotR e B g L.length c a m b L w) := by
  have HZ := Lib.hid (show ∀ t, rotAt L (m - (m - a)) m (m + (b - m)) t = rotAt L a m b t by rw [show m - (m - a) = a by omega, show m + (b - m) = b by omega]; exact fun _ => rfl)
  go_enter Try.func118, Try.ntmps118
  have w1 : wrap64 ((m : Int) - (a : Int)) = ((m - a : Nat) : Int) := by unfold wrap64; omega
  have w2 : wrap64 ((b : Int) - (m : Int)) = ((b - m : Nat) : Int) := by unfold wrap64; omega
  go_wp2
  go_loopw [10, 11] (fun v u wr => ∃ (i j : Nat) (M : List Int), v = .int .i64 i ∧ u = .int .i64 j ∧ 1 ≤ i ∧ 1 ≤ j ∧ i ≤ m - a ∧ j ≤ b - m ∧ (∀ t, rotAt M (m - i) m (m + j) t = rotAt L a m b t) ∧ Sw a b L M ∧ OwnI e B wr (.slice (some ⟨g, 0, none⟩) L.length c) M ∧ w.grownBy wr (some g)) (fun v u _ => (intOf v).toNat + (intOf u).toNat)
  case atStart => exact ⟨m - a, b - m, L, by first | rfl | (congr 1; omega), by first | rfl | (congr 1; omega), by omega, by omega, by omega, by omega, HZ.out, Sw.refl _ _ _, hown, World.grownBy.refl _ _⟩
  case round =>
    clear hown w1 w2
    obtain ⟨i, j, M, rfl, rfl, hi1, hj1, hi, hj, hM, hsw, ho, hg⟩ := hrel
    have HM := Lib.hid hM
    have HSW := Lib.hid hsw
    have hln := hsw.1
    have HLN := Lib.hid hln
    obtain ⟨P, hP⟩ : ∃ P : Nat, P = m - i := ⟨_, rfl⟩
    have w3 : (m : Int) - (i : Int) = (P : Int) := by omega
    have w3l : P ≤ 1000000 := by omega
    have HP := Lib.hid hP
    clear hM hsw hln hP
    by_cases hij : i = j
    · subst hij
      have q1 : ((i : Int) != (i : Int)) = false := by simp
      go_wp2_with fail
      refine (swr_n e B g c bx P m i L.length M wr HLN.out ho hl (by have := HP.out; omega) (by omega)).mono ?_
      rintro en w2 ⟨M2, rfl, h1, h2, h3, h4⟩
      have HF := Lib.hid (show (∀ t, gt M2 t = rotAt L a m b t) ∧ Sw a b L M2 from ⟨fun t => by
        rw [HP.out] at h1
        rw [rot_same (by omega) h1 t]; exact HM.out t, HSW.out.trans (h2.mono (by have := HP.out; omega) (by omega))⟩)
      have hg2 := grown_trans hg h4
      clear h1 h2 h4
      go_wp2
      go_end0
      exact ⟨M2, rfl, HF.out.1, HF.out.2, h3, hg2⟩
    · have q1 : ((i : Int) != (j : Int)) = true := by simp; omega
      by_cases hgt : j < i
      · have q2 : (j : Int) < (i : Int) := by omega
        have HIJ := Lib.hid hij
        clear hij
        go_wp2_with fail
        refine (swr_n e B g c bx P m j L.length M wr HLN.out ho hl (by have := HP.out; omega) (by omega)).mono ?_
        rintro en w2 ⟨M2, rfl, h1, h2, h3, h4⟩
        have HF := Lib.hid (show (∀ t, rotAt M2 (m - (i - j)) m (m + j) t = rotAt L a m b t) ∧ Sw a b L M2 from ⟨fun t => by
          rw [HP.out] at h1
          rw [rot_big (by omega) hgt h1 t]; exact HM.out t, HSW.out.trans (h2.mono (by have := HP.out; omega) (by omega))⟩)
        have hg2 := grown_trans hg h4
        clear h1 h2 h4
        go_wp2
        go_roundw
        case rel => exact ⟨i - j, j, M2, by first | rfl | (congr 1; omega), rfl, by omega, hj1, by omega, hj, HF.out.1, HF.out.2, h3, hg2⟩
        case measure => simp [intOf]; omega
      · have q2 : ¬ (j : Int) < (i : Int) := by omega
        obtain ⟨S, hS⟩ : ∃ S : Nat, S = m + j := ⟨_, rfl⟩
        obtain ⟨R, hR⟩ : ∃ R : Nat, R = m + j - i := ⟨_, rfl⟩
        have w5 : (m : Int) + (j : Int) = (S : Int) := by omega
        have w5l : S ≤ 2000000 := by omega
        have w6 : (S : Int) - (i : Int) = (R : Int) := by omega
        have HR := Lib.hid hR
        have HIJ := Lib.hid hij
        have hRl : R + i ≤ L.length := by omega
        have hRp : P + i ≤ R := by have := HP.out; omega
        clear hij hS hR
        go_wp2_with fail
        refine (swr_n e B g c bx P R i L.length M wr HLN.out ho hl hRp (by omega)).mono ?_
        rintro en w2 ⟨M2, rfl, h1, h2, h3, h4⟩
        have HF := Lib.hid (show (∀ t, rotAt M2 (m - i) m (m + (j - i)) t = rotAt L a m b t) ∧ Sw a b L M2 from ⟨fun t => by
          rw [HP.out, HR.out] at h1
          rw [rot_small (by omega) (by have := HIJ.out; omega) h1 t]; exact HM.out t, HSW.out.trans (h2.mono (by have := HP.out; omega) (by have := HR.out; omega))⟩)
        have hg2 := grown_trans hg h4
        have hji : i < j := by have := HIJ.out; omega
        clear h1 h2 h4
        go_wp2
        go_roundw
        case rel => exact ⟨i, j - i, M2, rfl, by first | rfl | (congr 1; omega), hi1, by omega, hi, by omega, HF.out.1, HF.out.2, h3, hg2⟩
        case measure => simp [intOf]; omega
end Go.Proofs.Ytkbceojeahninaa
