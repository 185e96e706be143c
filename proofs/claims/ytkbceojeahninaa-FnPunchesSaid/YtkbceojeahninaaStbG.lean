/- Merging in place (slices.SortStableFunc): the general case. -/
import Derived.Test.YtkbceojeahninaaStbS
namespace Go.Proofs.Ytkbceojeahninaa
open Go.ChangeShapes Go.WideShapes Go.ChangeAt Go.RowKit
set_option linter.unusedVariables false
theorem sub_left {K : Int → Int} {R : List Int} {a s mid en b : Nat} (h : CutK K R a s mid en b) (h1 : a ≤ s) (h2 : s ≤ mid) (h3 : ¬ (a < s ∧ s < mid)) : SrtK K R a mid := by
  by_cases e : a = s
  · rw [e]; exact h.2.1
  · have e2 : s = mid := by omega
    rw [← e2]; exact h.1
theorem sub_right {K : Int → Int} {R M : List Int} {a s mid en b : Nat} (h : CutK K R a s mid en b) (w : Sw a mid R M) (h1 : mid ≤ en) : SrtK K M mid en ∧ SrtK K M en b ∧ LowK M mid en b := by
  have E : ∀ t, mid ≤ t → gt M t = gt R t := fun t ht => w.2.1 t (Or.inr ht)
  refine ⟨h.2.2.2.1.congr fun t t1 _ => E t t1, h.2.2.2.2.1.congr fun t t1 _ => E t (by omega), fun i j i1 i2 j1 j2 => ?_⟩
  rw [E i i1, E j (by omega)]
  exact h.2.2.2.2.2.1 i j i1 i2 j1 j2
theorem sub_none {K : Int → Int} {M : List Int} {mid en b : Nat} (h1 : SrtK K M mid en) (h2 : SrtK K M en b) (h3 : mid ≤ en) (h4 : en ≤ b) (h5 : ¬ (mid < en ∧ en < b)) : SrtK K M mid b := by
  by_cases e : en = b
  · rw [← e]; exact h1
  · have e2 : mid = en := by omega
    rw [e2]; exact h2
theorem rot_n (e B g c bx a m b N : Nat) (L : List Int) (w : World) (hN : L.length = N) (hown : OwnI e B w (.slice (some ⟨g, 0, none⟩) N c) L) (hl : N ≤ 1000000) (ham : a < m) (hmb : m < b) (hb : b ≤ N) :
    Calls Try.prog 118 #[.slice (some ⟨g, 0, none⟩) N c, .int .i64 a, .int .i64 m, .int .i64 b, cloV bx] w (RotR e B g N c a m b L w) := by
  subst hN
  exact rot_any e B g c bx a m b L w hown hl ham hmb hb
/-- Merges of at most d numbers do as they should. -/
def MrgOk (K : Int → Int) (N : Int) (e B g n c bx d : Nat) : Prop :=
  ∀ (a m b : Nat) (L : List Int) (w : World), b - a ≤ d → a < m → m < b → b ≤ n → OwnI e B w (.slice (some ⟨g, 0, none⟩) n c) L → L.length = n → InR N L → SrtK K L a m → SrtK K L m b → LowK L a m b → CmpOk K N bx g w →
    Calls Try.prog 112 #[.slice (some ⟨g, 0, none⟩) n c, .int .i64 a, .int .i64 m, .int .i64 b, cloV bx] w (SrtR K e B g n c a b L w)
attribute [local irreducible] gt swp cmpZ ltK in
set_option maxHeartbeats 64000000 in
set_option maxRecDepth 100000 in
theorem mrg_gen (K : Int → Int) (N : Int) (e B g n c bx a m b : Nat) (L : List Int) (w : World) (hown : OwnI e B w (.slice (some ⟨g, 0, none⟩) n c) L) (hn : L.length = n) (hl : n ≤ 1000000) (ham : a + 1 < m) (hmb : m + 1 < b) (hb : b ≤ n) (hR : InR N L)
    (hS1 : SrtK K L a m) (hS2 : SrtK K L m b) (hW : LowK L a m b) (hC : CmpOk K N bx g w) (hI : MrgOk K N e B g n c bx (b - a - 1)) :
    Calls Try.prog 112 #[.slice (some ⟨g, 0, none⟩) n c, .int .i64 a, .int .i64 m, .int .i64 b, cloV bx] w (SrtR K e B g n c a b L w) := by
  have HC := Lib.hid hC
  have HR := Lib.hid hR
  have HS1 := Lib.hid hS1
  have HS2 := Lib.hid hS2
  have HW := Lib.hid hW
  have HN := Lib.hid hn
  have HI := Lib.hid hI
  have w0 : ((m : Int) - (a : Int) == 1) = false := beq_eq_false_iff_ne.2 (by omega)
  have w1 : ((b : Int) - (m : Int) == 1) = false := beq_eq_false_iff_ne.2 (by omega)
  obtain ⟨mid, hmid, hm1, hm2, hm3⟩ := half_in (show a < b by omega)
  obtain ⟨n2, hn2⟩ : ∃ n2, n2 = mid + m := ⟨_, rfl⟩
  obtain ⟨p, hp⟩ : ∃ p, n2 = p + 1 := ⟨n2 - 1, by omega⟩
  have w3 : (mid : Int) + (m : Int) = (n2 : Int) := by omega
  have w4 : (n2 : Int) - 1 = (p : Int) := by omega
  have hal : mid ≤ 1000000 := by omega
  have hnl : n2 ≤ 2000000 := by omega
  have HMID := Lib.hid (show a + b ≤ 2 * mid + 1 ∧ 2 * mid ≤ a + b by omega)
  have HN2 := Lib.hid hn2
  have HPP := Lib.hid hp
  clear hC hR hS1 hS2 hW hn hI hmid hn2 hp
  by_cases hmm : mid < m
  · obtain ⟨lo, hlo⟩ : ∃ lo, lo = n2 - b := ⟨_, rfl⟩
    have x1 : a ≤ lo ∧ lo + b = n2 ∧ lo ≤ mid ∧ m + mid = n2 := by have := HMID.out; omega
    obtain ⟨x1, x2, x3, x4⟩ := x1
    have w5 : (n2 : Int) - (b : Int) = (lo : Int) := by omega
    have hmm2 : (mid : Int) < (m : Int) := by omega
    clear hlo
    go_enter Try.func112, Try.ntmps112
    go_wp2
    go_loopw [20, 21] (fun v u wr => ∃ s r : Nat, v = .int .i64 s ∧ u = .int .i64 r ∧ lo ≤ s ∧ s ≤ r ∧ r ≤ mid ∧ (lo < s → ltK K (gt L (s - 1)) (gt L (n2 - s))) ∧ (r < mid → ltK K (gt L (p - r)) (gt L r)) ∧ OwnI e B wr (.slice (some ⟨g, 0, none⟩) n c) L ∧ w.grownBy wr (some g)) (fun v u _ => (intOf u).toNat - (intOf v).toNat)
    case atStart => exact ⟨lo, mid, rfl, rfl, Nat.le_refl _, by omega, Nat.le_refl _, fun h => by omega, fun h => by omega, hown, World.grownBy.refl _ _⟩
    case round =>
      clear hown
      obtain ⟨s, r, rfl, rfl, hs, hsr, hr, hp, hq, ho, hg⟩ := hrel
      have HP := Lib.hid hp
      have HQ := Lib.hid hq
      clear hp hq
      by_cases hlt : s < r
      · have hlt2 : (s : Int) < (r : Int) := by omega
        obtain ⟨k, hk, k1, k2, k3⟩ := half_in hlt
        obtain ⟨d, hd⟩ : ∃ d, d = p - k := ⟨_, rfl⟩
        have HPQ := Lib.hid (show p + 1 = n2 by have := HPP.out; omega)
        have hdm : m ≤ d ∧ d < b ∧ d + k = p := by have := HPQ.out; omega
        obtain ⟨hd1, hd2, hd3⟩ := hdm
        obtain ⟨g', he, _, _, hcl, hfr⟩ := ho.head (by have := HN.out; omega)
        injection he with he
        injection he with he
        subst he
        have c1 := hcl d (by have := HN.out; omega)
        have c2 := hcl k (by have := HN.out; omega)
        have r1 := HR.out d (by have := HN.out; omega)
        have r2 := HR.out k (by have := HN.out; omega)
        have h0a : (0 : Int) ≤ (d : Int) := by omega
        have h0b : (d : Int) < (n : Int) := by omega
        have h0c : (0 : Int) ≤ (k : Int) := by omega
        have h0d : (k : Int) < (n : Int) := by omega
        have HWd := Lib.hid (show IntKind.i64.wrap ((p : Int) - (k : Int)) = (d : Int) by rw [show ((p : Int) - (k : Int)) = (d : Int) by omega]; exact IntWalk.i64_in _ (by omega))
        have HCW := Lib.hid (fun q => HC.out wr q hg (gt L d) (gt L k) r1 r2)
        have HLO := Lib.hid (HW.out k d (by omega) (by omega) hd1 hd2)
        have HDE := Lib.hid (show p - k = d ∧ n2 - (k + 1) = d by have := HPQ.out; omega)
        clear hcl hfr hk r1 r2 hd
        by_cases hkk : K (gt L d) < K (gt L k)
        · have q1 : decide (cmpZ (K (gt L d)) (K (gt L k)) < 0) = true := decide_eq_true (cmpZ_neg.2 hkk)
          have q2 : cmpZ (K (gt L d)) (K (gt L k)) < 0 := cmpZ_neg.2 hkk
          have HX := Lib.hid (show k < mid → ltK K (gt L (p - k)) (gt L k) from fun _ => by rw [HDE.out.1]; exact (ltK_high HLO.out).2 hkk)
          clear hkk
          go_wp2_with fail
          have v1 := HWd.out
          go_quiet ((go_at_call 77; exact HCW.out _))
          clear v1
          go_wp2
          go_roundw
          case rel => exact ⟨s, k, rfl, rfl, hs, by omega, by omega, HP.out, HX.out, ho, grown_drewN hg _⟩
          case measure => simp [intOf]; omega
        · have q1 : decide (cmpZ (K (gt L d)) (K (gt L k)) < 0) = false := decide_eq_false fun h => hkk (cmpZ_neg.1 h)
          have q2 : ¬ cmpZ (K (gt L d)) (K (gt L k)) < 0 := fun h => hkk (cmpZ_neg.1 h)
          have HX := Lib.hid (show lo < k + 1 → ltK K (gt L (k + 1 - 1)) (gt L (n2 - (k + 1))) from fun _ => by rw [HDE.out.2, Nat.add_sub_cancel]; exact (ltK_low HLO.out).2 hkk)
          clear hkk
          go_wp2_with fail
          have v1 := HWd.out
          go_quiet ((go_at_call 77; exact HCW.out _))
          clear v1
          go_wp2
          go_roundw
          case rel => exact ⟨k + 1, r, by go_num, rfl, by omega, by omega, hr, HX.out, HQ.out, ho, grown_drewN hg _⟩
          case measure => simp [intOf]; omega
      · obtain rfl : r = s := by omega
        have hlt2 : ¬ (r : Int) < (r : Int) := by omega
        obtain ⟨s, hse⟩ : ∃ s, s = r := ⟨_, rfl⟩
        subst hse
        obtain ⟨en, hen⟩ : ∃ en, en = n2 - s := ⟨_, rfl⟩
        have w7 : (n2 : Int) - (s : Int) = (en : Int) := by omega
        have HE := Lib.hid (show s + en = mid + m ∧ (a < s → en < b → ltK K (gt L (s - 1)) (gt L en)) ∧ (s < m → m < en → ltK K (gt L (en - 1)) (gt L s)) from
          ⟨by have := HN2.out; omega, fun h1 h2 => by have h3 := HP.out (by omega); rwa [← hen] at h3, fun h1 h2 => by have h3 := HQ.out (by omega); rwa [show p - s = en - 1 by have := HPP.out; omega] at h3⟩)
        have he1 : s + en = mid + m := HE.out.1
        have he2 : en ≤ 2000000 := by omega
        have he3 : m ≤ en ∧ en ≤ b := by omega
        obtain ⟨he4, he5⟩ := he3
        clear hen
        by_cases hsm : s < mid
        · by_cases l1 : a < s
          · by_cases r2 : en < b
            · have z0 : (s : Int) < (m : Int) := by omega
              have z1 : (m : Int) < (en : Int) := by omega
              have z2 : (s : Int) < (mid : Int) := by omega
              have z3 : (mid : Int) < (en : Int) := by omega
              have z4 : (a : Int) < (s : Int) := by omega
              have z5 : (en : Int) < (b : Int) := by omega
              go_wp2_with fail
              refine (rot_n e B g c bx s m en n L wr HN.out ho hl (by omega) (by omega) (by omega)).mono ?_
              rintro eR w2 ⟨R, rfl, hRR, hswR, hoR, hgR⟩
              have HSR := Lib.hid (hswR.mono (show a ≤ s by omega) (show en ≤ b by omega))
              have hg2 := grown_trans hg hgR
              have HCut := Lib.hid (cut_of (by omega) (by omega) (by omega) (by omega) HE.out.1 HS1.out HS2.out HW.out HE.out.2.1 HE.out.2.2 hRR)
              clear hRR hswR hgR ho hg
              go_wp2_with fail
              refine (HI.out a s mid R w2 (by omega) (by omega) (by omega) (by omega) hoR (HSR.out.1.trans HN.out) (HSR.out.inR (by have := HN.out; omega) HR.out) HCut.out.1 HCut.out.2.1 HCut.out.2.2.1 (HC.out.kept hg2)).mono ?_
              rintro e1 w5 ⟨M1, rfl, hsw1, hsr1, ho1, hg5⟩
              have HS5 := Lib.hid (And.intro hsw1 hsr1)
              have hg6 := grown_trans hg2 hg5
              clear hsw1 hsr1 hg5 hoR hg2
              have HSU := Lib.hid (sub_right HCut.out HS5.out.1 (by omega))
              go_wp2_with fail
              refine (HI.out mid en b M1 w5 (by omega) (by omega) (by omega) (by omega) ho1 (HS5.out.1.1.trans (HSR.out.1.trans HN.out)) (HS5.out.1.inR (by have := HSR.out.1; have := HN.out; omega) (HSR.out.inR (by have := HN.out; omega) HR.out)) HSU.out.1 HSU.out.2.1 HSU.out.2.2 (HC.out.kept hg6)).mono ?_
              rintro e2 w7 ⟨M2, rfl, hsw2, hsr2, ho2, hg7⟩
              have HS6 := Lib.hid (And.intro hsw2 hsr2)
              have hg8 := grown_trans hg6 hg7
              clear hsw2 hsr2 hg7 ho1 hg6
              have HF := Lib.hid (cut_end (by omega) (by omega) HCut.out HS5.out.1 HS5.out.2 HS6.out.1 HS6.out.2)
              go_wp2
              go_end0
              exact ⟨M2, rfl, HSR.out.trans HF.out.1, HF.out.2, ho2, hg8⟩
            · have z0 : (s : Int) < (m : Int) := by omega
              have z1 : (m : Int) < (en : Int) := by omega
              have z2 : (s : Int) < (mid : Int) := by omega
              have z3 : (mid : Int) < (en : Int) := by omega
              have z4 : (a : Int) < (s : Int) := by omega
              have z5 : ¬ (en : Int) < (b : Int) := by omega
              go_wp2_with fail
              refine (rot_n e B g c bx s m en n L wr HN.out ho hl (by omega) (by omega) (by omega)).mono ?_
              rintro eR w2 ⟨R, rfl, hRR, hswR, hoR, hgR⟩
              have HSR := Lib.hid (hswR.mono (show a ≤ s by omega) (show en ≤ b by omega))
              have hg2 := grown_trans hg hgR
              have HCut := Lib.hid (cut_of (by omega) (by omega) (by omega) (by omega) HE.out.1 HS1.out HS2.out HW.out HE.out.2.1 HE.out.2.2 hRR)
              clear hRR hswR hgR ho hg
              go_wp2_with fail
              refine (HI.out a s mid R w2 (by omega) (by omega) (by omega) (by omega) hoR (HSR.out.1.trans HN.out) (HSR.out.inR (by have := HN.out; omega) HR.out) HCut.out.1 HCut.out.2.1 HCut.out.2.2.1 (HC.out.kept hg2)).mono ?_
              rintro e1 w5 ⟨M1, rfl, hsw1, hsr1, ho1, hg5⟩
              have HS5 := Lib.hid (And.intro hsw1 hsr1)
              have hg6 := grown_trans hg2 hg5
              clear hsw1 hsr1 hg5 hoR hg2
              have HSU := Lib.hid (sub_right HCut.out HS5.out.1 (by omega))
              have HS6 := Lib.hid (And.intro (Sw.refl mid b M1) (sub_none HSU.out.1 HSU.out.2.1 (by omega) (by omega) (by omega)))
              have HF := Lib.hid (cut_end (by omega) (by omega) HCut.out HS5.out.1 HS5.out.2 HS6.out.1 HS6.out.2)
              go_wp2
              go_end0
              exact ⟨M1, rfl, HSR.out.trans HF.out.1, HF.out.2, ho1, hg6⟩
          · by_cases r2 : en < b
            · have z0 : (s : Int) < (m : Int) := by omega
              have z1 : (m : Int) < (en : Int) := by omega
              have z2 : (s : Int) < (mid : Int) := by omega
              have z3 : (mid : Int) < (en : Int) := by omega
              have z4 : ¬ (a : Int) < (s : Int) := by omega
              have z5 : (en : Int) < (b : Int) := by omega
              go_wp2_with fail
              refine (rot_n e B g c bx s m en n L wr HN.out ho hl (by omega) (by omega) (by omega)).mono ?_
              rintro eR w2 ⟨R, rfl, hRR, hswR, hoR, hgR⟩
              have HSR := Lib.hid (hswR.mono (show a ≤ s by omega) (show en ≤ b by omega))
              have hg2 := grown_trans hg hgR
              have HCut := Lib.hid (cut_of (by omega) (by omega) (by omega) (by omega) HE.out.1 HS1.out HS2.out HW.out HE.out.2.1 HE.out.2.2 hRR)
              clear hRR hswR hgR ho hg
              have HS5 := Lib.hid (And.intro (Sw.refl a mid R) (sub_left HCut.out (by omega) (by omega) (by omega)))
              have HSU := Lib.hid (sub_right HCut.out HS5.out.1 (by omega))
              go_wp2_with fail
              refine (HI.out mid en b R w2 (by omega) (by omega) (by omega) (by omega) hoR (HS5.out.1.1.trans (HSR.out.1.trans HN.out)) (HS5.out.1.inR (by have := HSR.out.1; have := HN.out; omega) (HSR.out.inR (by have := HN.out; omega) HR.out)) HSU.out.1 HSU.out.2.1 HSU.out.2.2 (HC.out.kept hg2)).mono ?_
              rintro e2 w7 ⟨M2, rfl, hsw2, hsr2, ho2, hg7⟩
              have HS6 := Lib.hid (And.intro hsw2 hsr2)
              have hg8 := grown_trans hg2 hg7
              clear hsw2 hsr2 hg7 hoR hg2
              have HF := Lib.hid (cut_end (by omega) (by omega) HCut.out HS5.out.1 HS5.out.2 HS6.out.1 HS6.out.2)
              go_wp2
              go_end0
              exact ⟨M2, rfl, HSR.out.trans HF.out.1, HF.out.2, ho2, hg8⟩
            · have z0 : (s : Int) < (m : Int) := by omega
              have z1 : (m : Int) < (en : Int) := by omega
              have z2 : (s : Int) < (mid : Int) := by omega
              have z3 : (mid : Int) < (en : Int) := by omega
              have z4 : ¬ (a : Int) < (s : Int) := by omega
              have z5 : ¬ (en : Int) < (b : Int) := by omega
              go_wp2_with fail
              refine (rot_n e B g c bx s m en n L wr HN.out ho hl (by omega) (by omega) (by omega)).mono ?_
              rintro eR w2 ⟨R, rfl, hRR, hswR, hoR, hgR⟩
              have HSR := Lib.hid (hswR.mono (show a ≤ s by omega) (show en ≤ b by omega))
              have hg2 := grown_trans hg hgR
              have HCut := Lib.hid (cut_of (by omega) (by omega) (by omega) (by omega) HE.out.1 HS1.out HS2.out HW.out HE.out.2.1 HE.out.2.2 hRR)
              clear hRR hswR hgR ho hg
              have HS5 := Lib.hid (And.intro (Sw.refl a mid R) (sub_left HCut.out (by omega) (by omega) (by omega)))
              have HSU := Lib.hid (sub_right HCut.out HS5.out.1 (by omega))
              have HS6 := Lib.hid (And.intro (Sw.refl mid b R) (sub_none HSU.out.1 HSU.out.2.1 (by omega) (by omega) (by omega)))
              have HF := Lib.hid (cut_end (by omega) (by omega) HCut.out HS5.out.1 HS5.out.2 HS6.out.1 HS6.out.2)
              go_wp2
              go_end0
              exact ⟨R, rfl, HSR.out.trans HF.out.1, HF.out.2, hoR, hg2⟩
        · have z0 : (s : Int) < (m : Int) := by omega
          have z1 : ¬ (m : Int) < (en : Int) := by omega
          have z2 : (a : Int) < (s : Int) := by omega
          have z3 : ¬ (s : Int) < (mid : Int) := by omega
          have z4 : (mid : Int) < (en : Int) := by omega
          have z5 : (en : Int) < (b : Int) := by omega
          have HSR := Lib.hid (Sw.refl a b L)
          have HCut := Lib.hid (cut_of (R := L) (by omega) (by omega) (by omega) (by omega) HE.out.1 HS1.out HS2.out HW.out HE.out.2.1 HE.out.2.2 (rot_none (by omega) (by omega) (by omega)))
          have HS5 := Lib.hid (And.intro (Sw.refl a mid L) (sub_left HCut.out (by omega) (by omega) (by omega)))
          have HSU := Lib.hid (sub_right HCut.out HS5.out.1 (by omega))
          go_wp2_with fail
          refine (HI.out mid en b L wr (by omega) (by omega) (by omega) (by omega) ho (HS5.out.1.1.trans (HSR.out.1.trans HN.out)) (HS5.out.1.inR (by have := HSR.out.1; have := HN.out; omega) (HSR.out.inR (by have := HN.out; omega) HR.out)) HSU.out.1 HSU.out.2.1 HSU.out.2.2 (HC.out.kept hg)).mono ?_
          rintro e2 w7 ⟨M2, rfl, hsw2, hsr2, ho2, hg7⟩
          have HS6 := Lib.hid (And.intro hsw2 hsr2)
          have hg8 := grown_trans hg hg7
          clear hsw2 hsr2 hg7 ho hg
          have HF := Lib.hid (cut_end (by omega) (by omega) HCut.out HS5.out.1 HS5.out.2 HS6.out.1 HS6.out.2)
          go_wp2
          go_end0
          exact ⟨M2, rfl, HSR.out.trans HF.out.1, HF.out.2, ho2, hg8⟩
  · have x1 : n2 ≤ a + b ∧ m + m ≤ n2 := by have := HMID.out; omega
    obtain ⟨x1, x2⟩ := x1
    have hmm2 : ¬ (mid : Int) < (m : Int) := by omega
    go_enter Try.func112, Try.ntmps112
    go_wp2
    go_loopw [20, 21] (fun v u wr => ∃ s r : Nat, v = .int .i64 s ∧ u = .int .i64 r ∧ a ≤ s ∧ s ≤ r ∧ r ≤ m ∧ (a < s → ltK K (gt L (s - 1)) (gt L (n2 - s))) ∧ (r < m → ltK K (gt L (p - r)) (gt L r)) ∧ OwnI e B wr (.slice (some ⟨g, 0, none⟩) n c) L ∧ w.grownBy wr (some g)) (fun v u _ => (intOf u).toNat - (intOf v).toNat)
    case atStart => exact ⟨a, m, rfl, rfl, Nat.le_refl _, by omega, Nat.le_refl _, fun h => by omega, fun h => by omega, hown, World.grownBy.refl _ _⟩
    case round =>
      clear hown
      obtain ⟨s, r, rfl, rfl, hs, hsr, hr, hp, hq, ho, hg⟩ := hrel
      have HP := Lib.hid hp
      have HQ := Lib.hid hq
      clear hp hq
      by_cases hlt : s < r
      · have hlt2 : (s : Int) < (r : Int) := by omega
        obtain ⟨k, hk, k1, k2, k3⟩ := half_in hlt
        obtain ⟨d, hd⟩ : ∃ d, d = p - k := ⟨_, rfl⟩
        have HPQ := Lib.hid (show p + 1 = n2 by have := HPP.out; omega)
        have hdm : m ≤ d ∧ d < b ∧ d + k = p := by have := HPQ.out; omega
        obtain ⟨hd1, hd2, hd3⟩ := hdm
        obtain ⟨g', he, _, _, hcl, hfr⟩ := ho.head (by have := HN.out; omega)
        injection he with he
        injection he with he
        subst he
        have c1 := hcl d (by have := HN.out; omega)
        have c2 := hcl k (by have := HN.out; omega)
        have r1 := HR.out d (by have := HN.out; omega)
        have r2 := HR.out k (by have := HN.out; omega)
        have h0a : (0 : Int) ≤ (d : Int) := by omega
        have h0b : (d : Int) < (n : Int) := by omega
        have h0c : (0 : Int) ≤ (k : Int) := by omega
        have h0d : (k : Int) < (n : Int) := by omega
        have HWd := Lib.hid (show IntKind.i64.wrap ((p : Int) - (k : Int)) = (d : Int) by rw [show ((p : Int) - (k : Int)) = (d : Int) by omega]; exact IntWalk.i64_in _ (by omega))
        have HCW := Lib.hid (fun q => HC.out wr q hg (gt L d) (gt L k) r1 r2)
        have HLO := Lib.hid (HW.out k d (by omega) (by omega) hd1 hd2)
        have HDE := Lib.hid (show p - k = d ∧ n2 - (k + 1) = d by have := HPQ.out; omega)
        clear hcl hfr hk r1 r2 hd
        by_cases hkk : K (gt L d) < K (gt L k)
        · have q1 : decide (cmpZ (K (gt L d)) (K (gt L k)) < 0) = true := decide_eq_true (cmpZ_neg.2 hkk)
          have q2 : cmpZ (K (gt L d)) (K (gt L k)) < 0 := cmpZ_neg.2 hkk
          have HX := Lib.hid (show k < m → ltK K (gt L (p - k)) (gt L k) from fun _ => by rw [HDE.out.1]; exact (ltK_high HLO.out).2 hkk)
          clear hkk
          go_wp2_with fail
          have v1 := HWd.out
          go_quiet ((go_at_call 77; exact HCW.out _))
          clear v1
          go_wp2
          go_roundw
          case rel => exact ⟨s, k, rfl, rfl, hs, by omega, by omega, HP.out, HX.out, ho, grown_drewN hg _⟩
          case measure => simp [intOf]; omega
        · have q1 : decide (cmpZ (K (gt L d)) (K (gt L k)) < 0) = false := decide_eq_false fun h => hkk (cmpZ_neg.1 h)
          have q2 : ¬ cmpZ (K (gt L d)) (K (gt L k)) < 0 := fun h => hkk (cmpZ_neg.1 h)
          have HX := Lib.hid (show a < k + 1 → ltK K (gt L (k + 1 - 1)) (gt L (n2 - (k + 1))) from fun _ => by rw [HDE.out.2, Nat.add_sub_cancel]; exact (ltK_low HLO.out).2 hkk)
          clear hkk
          go_wp2_with fail
          have v1 := HWd.out
          go_quiet ((go_at_call 77; exact HCW.out _))
          clear v1
          go_wp2
          go_roundw
          case rel => exact ⟨k + 1, r, by go_num, rfl, by omega, by omega, hr, HX.out, HQ.out, ho, grown_drewN hg _⟩
          case measure => simp [intOf]; omega
      · obtain rfl : r = s := by omega
        have hlt2 : ¬ (r : Int) < (r : Int) := by omega
        obtain ⟨s, hse⟩ : ∃ s, s = r := ⟨_, rfl⟩
        subst hse
        obtain ⟨en, hen⟩ : ∃ en, en = n2 - s := ⟨_, rfl⟩
        have w7 : (n2 : Int) - (s : Int) = (en : Int) := by omega
        have HE := Lib.hid (show s + en = mid + m ∧ (a < s → en < b → ltK K (gt L (s - 1)) (gt L en)) ∧ (s < m → m < en → ltK K (gt L (en - 1)) (gt L s)) from
          ⟨by have := HN2.out; omega, fun h1 h2 => by have h3 := HP.out (by omega); rwa [← hen] at h3, fun h1 h2 => by have h3 := HQ.out (by omega); rwa [show p - s = en - 1 by have := HPP.out; omega] at h3⟩)
        have he1 : s + en = mid + m := HE.out.1
        have he2 : en ≤ 2000000 := by omega
        have he3 : m ≤ en ∧ en ≤ b := by omega
        obtain ⟨he4, he5⟩ := he3
        clear hen
        by_cases hsm : s < m
        · by_cases l1 : a < s
          · by_cases r2 : en < b
            · have z0 : (s : Int) < (m : Int) := by omega
              have z1 : (m : Int) < (en : Int) := by omega
              have z2 : (s : Int) < (mid : Int) := by omega
              have z3 : (mid : Int) < (en : Int) := by omega
              have z4 : (a : Int) < (s : Int) := by omega
              have z5 : (en : Int) < (b : Int) := by omega
              go_wp2_with fail
              refine (rot_n e B g c bx s m en n L wr HN.out ho hl (by omega) (by omega) (by omega)).mono ?_
              rintro eR w2 ⟨R, rfl, hRR, hswR, hoR, hgR⟩
              have HSR := Lib.hid (hswR.mono (show a ≤ s by omega) (show en ≤ b by omega))
              have hg2 := grown_trans hg hgR
              have HCut := Lib.hid (cut_of (by omega) (by omega) (by omega) (by omega) HE.out.1 HS1.out HS2.out HW.out HE.out.2.1 HE.out.2.2 hRR)
              clear hRR hswR hgR ho hg
              go_wp2_with fail
              refine (HI.out a s mid R w2 (by omega) (by omega) (by omega) (by omega) hoR (HSR.out.1.trans HN.out) (HSR.out.inR (by have := HN.out; omega) HR.out) HCut.out.1 HCut.out.2.1 HCut.out.2.2.1 (HC.out.kept hg2)).mono ?_
              rintro e1 w5 ⟨M1, rfl, hsw1, hsr1, ho1, hg5⟩
              have HS5 := Lib.hid (And.intro hsw1 hsr1)
              have hg6 := grown_trans hg2 hg5
              clear hsw1 hsr1 hg5 hoR hg2
              have HSU := Lib.hid (sub_right HCut.out HS5.out.1 (by omega))
              go_wp2_with fail
              refine (HI.out mid en b M1 w5 (by omega) (by omega) (by omega) (by omega) ho1 (HS5.out.1.1.trans (HSR.out.1.trans HN.out)) (HS5.out.1.inR (by have := HSR.out.1; have := HN.out; omega) (HSR.out.inR (by have := HN.out; omega) HR.out)) HSU.out.1 HSU.out.2.1 HSU.out.2.2 (HC.out.kept hg6)).mono ?_
              rintro e2 w7 ⟨M2, rfl, hsw2, hsr2, ho2, hg7⟩
              have HS6 := Lib.hid (And.intro hsw2 hsr2)
              have hg8 := grown_trans hg6 hg7
              clear hsw2 hsr2 hg7 ho1 hg6
              have HF := Lib.hid (cut_end (by omega) (by omega) HCut.out HS5.out.1 HS5.out.2 HS6.out.1 HS6.out.2)
              go_wp2
              go_end0
              exact ⟨M2, rfl, HSR.out.trans HF.out.1, HF.out.2, ho2, hg8⟩
            · have z0 : (s : Int) < (m : Int) := by omega
              have z1 : (m : Int) < (en : Int) := by omega
              have z2 : (s : Int) < (mid : Int) := by omega
              have z3 : (mid : Int) < (en : Int) := by omega
              have z4 : (a : Int) < (s : Int) := by omega
              have z5 : ¬ (en : Int) < (b : Int) := by omega
              go_wp2_with fail
              refine (rot_n e B g c bx s m en n L wr HN.out ho hl (by omega) (by omega) (by omega)).mono ?_
              rintro eR w2 ⟨R, rfl, hRR, hswR, hoR, hgR⟩
              have HSR := Lib.hid (hswR.mono (show a ≤ s by omega) (show en ≤ b by omega))
              have hg2 := grown_trans hg hgR
              have HCut := Lib.hid (cut_of (by omega) (by omega) (by omega) (by omega) HE.out.1 HS1.out HS2.out HW.out HE.out.2.1 HE.out.2.2 hRR)
              clear hRR hswR hgR ho hg
              go_wp2_with fail
              refine (HI.out a s mid R w2 (by omega) (by omega) (by omega) (by omega) hoR (HSR.out.1.trans HN.out) (HSR.out.inR (by have := HN.out; omega) HR.out) HCut.out.1 HCut.out.2.1 HCut.out.2.2.1 (HC.out.kept hg2)).mono ?_
              rintro e1 w5 ⟨M1, rfl, hsw1, hsr1, ho1, hg5⟩
              have HS5 := Lib.hid (And.intro hsw1 hsr1)
              have hg6 := grown_trans hg2 hg5
              clear hsw1 hsr1 hg5 hoR hg2
              have HSU := Lib.hid (sub_right HCut.out HS5.out.1 (by omega))
              have HS6 := Lib.hid (And.intro (Sw.refl mid b M1) (sub_none HSU.out.1 HSU.out.2.1 (by omega) (by omega) (by omega)))
              have HF := Lib.hid (cut_end (by omega) (by omega) HCut.out HS5.out.1 HS5.out.2 HS6.out.1 HS6.out.2)
              go_wp2
              go_end0
              exact ⟨M1, rfl, HSR.out.trans HF.out.1, HF.out.2, ho1, hg6⟩
          · by_cases r2 : en < b
            · have z0 : (s : Int) < (m : Int) := by omega
              have z1 : (m : Int) < (en : Int) := by omega
              have z2 : (s : Int) < (mid : Int) := by omega
              have z3 : (mid : Int) < (en : Int) := by omega
              have z4 : ¬ (a : Int) < (s : Int) := by omega
              have z5 : (en : Int) < (b : Int) := by omega
              go_wp2_with fail
              refine (rot_n e B g c bx s m en n L wr HN.out ho hl (by omega) (by omega) (by omega)).mono ?_
              rintro eR w2 ⟨R, rfl, hRR, hswR, hoR, hgR⟩
              have HSR := Lib.hid (hswR.mono (show a ≤ s by omega) (show en ≤ b by omega))
              have hg2 := grown_trans hg hgR
              have HCut := Lib.hid (cut_of (by omega) (by omega) (by omega) (by omega) HE.out.1 HS1.out HS2.out HW.out HE.out.2.1 HE.out.2.2 hRR)
              clear hRR hswR hgR ho hg
              have HS5 := Lib.hid (And.intro (Sw.refl a mid R) (sub_left HCut.out (by omega) (by omega) (by omega)))
              have HSU := Lib.hid (sub_right HCut.out HS5.out.1 (by omega))
              go_wp2_with fail
              refine (HI.out mid en b R w2 (by omega) (by omega) (by omega) (by omega) hoR (HS5.out.1.1.trans (HSR.out.1.trans HN.out)) (HS5.out.1.inR (by have := HSR.out.1; have := HN.out; omega) (HSR.out.inR (by have := HN.out; omega) HR.out)) HSU.out.1 HSU.out.2.1 HSU.out.2.2 (HC.out.kept hg2)).mono ?_
              rintro e2 w7 ⟨M2, rfl, hsw2, hsr2, ho2, hg7⟩
              have HS6 := Lib.hid (And.intro hsw2 hsr2)
              have hg8 := grown_trans hg2 hg7
              clear hsw2 hsr2 hg7 hoR hg2
              have HF := Lib.hid (cut_end (by omega) (by omega) HCut.out HS5.out.1 HS5.out.2 HS6.out.1 HS6.out.2)
              go_wp2
              go_end0
              exact ⟨M2, rfl, HSR.out.trans HF.out.1, HF.out.2, ho2, hg8⟩
            · have z0 : (s : Int) < (m : Int) := by omega
              have z1 : (m : Int) < (en : Int) := by omega
              have z2 : (s : Int) < (mid : Int) := by omega
              have z3 : (mid : Int) < (en : Int) := by omega
              have z4 : ¬ (a : Int) < (s : Int) := by omega
              have z5 : ¬ (en : Int) < (b : Int) := by omega
              go_wp2_with fail
              refine (rot_n e B g c bx s m en n L wr HN.out ho hl (by omega) (by omega) (by omega)).mono ?_
              rintro eR w2 ⟨R, rfl, hRR, hswR, hoR, hgR⟩
              have HSR := Lib.hid (hswR.mono (show a ≤ s by omega) (show en ≤ b by omega))
              have hg2 := grown_trans hg hgR
              have HCut := Lib.hid (cut_of (by omega) (by omega) (by omega) (by omega) HE.out.1 HS1.out HS2.out HW.out HE.out.2.1 HE.out.2.2 hRR)
              clear hRR hswR hgR ho hg
              have HS5 := Lib.hid (And.intro (Sw.refl a mid R) (sub_left HCut.out (by omega) (by omega) (by omega)))
              have HSU := Lib.hid (sub_right HCut.out HS5.out.1 (by omega))
              have HS6 := Lib.hid (And.intro (Sw.refl mid b R) (sub_none HSU.out.1 HSU.out.2.1 (by omega) (by omega) (by omega)))
              have HF := Lib.hid (cut_end (by omega) (by omega) HCut.out HS5.out.1 HS5.out.2 HS6.out.1 HS6.out.2)
              go_wp2
              go_end0
              exact ⟨R, rfl, HSR.out.trans HF.out.1, HF.out.2, hoR, hg2⟩
        · by_cases hmd : m < mid
          · have z0 : ¬ (s : Int) < (m : Int) := by omega
            have z1 : (a : Int) < (s : Int) := by omega
            have z2 : (s : Int) < (mid : Int) := by omega
            have z3 : ¬ (mid : Int) < (en : Int) := by omega
            have HSR := Lib.hid (Sw.refl a b L)
            have HCut := Lib.hid (cut_of (R := L) (by omega) (by omega) (by omega) (by omega) HE.out.1 HS1.out HS2.out HW.out HE.out.2.1 HE.out.2.2 (rot_none (by omega) (by omega) (by omega)))
            go_wp2_with fail
            refine (HI.out a s mid L wr (by omega) (by omega) (by omega) (by omega) ho (HSR.out.1.trans HN.out) (HSR.out.inR (by have := HN.out; omega) HR.out) HCut.out.1 HCut.out.2.1 HCut.out.2.2.1 (HC.out.kept hg)).mono ?_
            rintro e1 w5 ⟨M1, rfl, hsw1, hsr1, ho1, hg5⟩
            have HS5 := Lib.hid (And.intro hsw1 hsr1)
            have hg6 := grown_trans hg hg5
            clear hsw1 hsr1 hg5 ho hg
            have HSU := Lib.hid (sub_right HCut.out HS5.out.1 (by omega))
            have HS6 := Lib.hid (And.intro (Sw.refl mid b M1) (sub_none HSU.out.1 HSU.out.2.1 (by omega) (by omega) (by omega)))
            have HF := Lib.hid (cut_end (by omega) (by omega) HCut.out HS5.out.1 HS5.out.2 HS6.out.1 HS6.out.2)
            go_wp2
            go_end0
            exact ⟨M1, rfl, HSR.out.trans HF.out.1, HF.out.2, ho1, hg6⟩
          · have z0 : ¬ (s : Int) < (m : Int) := by omega
            have z1 : (a : Int) < (s : Int) := by omega
            have z2 : ¬ (s : Int) < (mid : Int) := by omega
            have z3 : ¬ (mid : Int) < (en : Int) := by omega
            have HSR := Lib.hid (Sw.refl a b L)
            have HCut := Lib.hid (cut_of (R := L) (by omega) (by omega) (by omega) (by omega) HE.out.1 HS1.out HS2.out HW.out HE.out.2.1 HE.out.2.2 (rot_none (by omega) (by omega) (by omega)))
            have HS5 := Lib.hid (And.intro (Sw.refl a mid L) (sub_left HCut.out (by omega) (by omega) (by omega)))
            have HSU := Lib.hid (sub_right HCut.out HS5.out.1 (by omega))
            have HS6 := Lib.hid (And.intro (Sw.refl mid b L) (sub_none HSU.out.1 HSU.out.2.1 (by omega) (by omega) (by omega)))
            have HF := Lib.hid (cut_end (by omega) (by omega) HCut.out HS5.out.1 HS5.out.2 HS6.out.1 HS6.out.2)
            go_wp2
            go_end0
            exact ⟨L, rfl, HSR.out.trans HF.out.1, HF.out.2, ho, hg⟩
theorem mrg_any (K : Int → Int) (N : Int) (e B g n c bx : Nat) (hl : n ≤ 1000000) : ∀ d, MrgOk K N e B g n c bx d := by
  intro d
  induction d with
  | zero => intro a m b L w h1 h2 h3; omega
  | succ d ih =>
    intro a m b L w hd ham hmb hb ho hn hR hS1 hS2 hW hC
    by_cases e1 : m = a + 1
    · exact mrg_one K N e B g n c bx a m b L w ho hn hl e1 hmb hb hR hS2 hW hC
    · by_cases e2 : b = m + 1
      · exact mrg_last K N e B g n c bx a m b L w ho hn hl (by omega) e2 hb hR hS1 hW hC
      · refine mrg_gen K N e B g n c bx a m b L w ho hn hl (by omega) (by omega) hb hR hS1 hS2 hW hC ?_
        intro a' m' b' L' w' hd'
        exact ih a' m' b' L' w' (by omega)
end Go.Proofs.Ytkbceojeahninaa
