/- slices.SortStableFunc on the numbers 0 .. n - 1, at most 100 of them, in place. -/
import Derived.Test.YtkbceojeahninaaStbG
import Derived.Test.YtkbceojeahninaaStbQ
namespace Go.Proofs.Ytkbceojeahninaa
open Go.ChangeShapes Go.WideShapes Go.ChangeAt Go.RowKit
set_option linter.unusedVariables false
theorem ins_n (K : Int → Int) (N : Int) (e B g c bx a b n : Nat) (L : List Int) (w : World) (hn : L.length = n) (hown : OwnI e B w (.slice (some ⟨g, 0, none⟩) n c) L) (hl : n ≤ 1000000) (hab : a ≤ b) (hb : b ≤ n) (hR : InR N L)
    (hA : ∀ t u, a ≤ t → t < u → u < b → gt L t < gt L u) (hC : CmpOk K N bx g w) :
    Calls Try.prog 111 #[.slice (some ⟨g, 0, none⟩) n c, .int .i64 a, .int .i64 b, cloV bx] w (SrtR K e B g n c a b L w) := by
  subst hn
  exact ins_any K N e B g c bx a b L w hown hl hab hb hR hA hC
theorem mrg_n {K : Int → Int} {N : Int} {e B g n c bx a m b : Nat} {L : List Int} {w : World} (hl : n ≤ 1000000) (ham : a < m) (hmb : m < b) (hb : b ≤ n) (ho : OwnI e B w (.slice (some ⟨g, 0, none⟩) n c) L) (hn : L.length = n) (hR : InR N L) (h : SrtK K L a m ∧ SrtK K L m b ∧ LowK L a m b) (hC : CmpOk K N bx g w) :
    Calls Try.prog 112 #[.slice (some ⟨g, 0, none⟩) n c, .int .i64 a, .int .i64 m, .int .i64 b, cloV bx] w (SrtR K e B g n c a b L w) :=
  mrg_any K N e B g n c bx hl (b - a) a m b L w (Nat.le_refl _) ham hmb hb ho hn hR h.1 h.2.1 h.2.2 hC
theorem inr_lt {n : Nat} {M : List Int} (h : InR (n : Int) M) (hl : M.length = n) : ∀ t, t < n → gt M t < (n : Int) := fun t ht => (h t (by omega)).2
attribute [local irreducible] gt swp cmpZ ltK in
set_option maxHeartbeats 12800000 in
set_option maxRecDepth 100000 in
theorem stb_any (K : Int → Int) (e B g n c bx : Nat) (L : List Int) (w : World) (hown : OwnI e B w (.slice (some ⟨g, 0, none⟩) n c) L) (hn : L.length = n) (hl : n ≤ 100) (hL : ∀ t, t < n → gt L t = (t : Int)) (hC : CmpOk K (n : Int) bx g w) :
    Calls Try.prog 102 #[.slice (some ⟨g, 0, none⟩) n c, .int .i64 n, cloV bx] w (SrtR K e B g n c 0 n L w) := by
  have HC := Lib.hid hC
  have HN := Lib.hid hn
  have HR := Lib.hid (show InR (n : Int) L from fun t ht => by rw [hL t (by omega)]; omega)
  have h10 := st1_zero K hL
  clear hC hL
  go_enter Try.func102, Try.ntmps102
  go_wp2
  go_loopw [7, 8] (fun v u wr => ∃ (k a : Nat) (M : List Int), a = k * 20 ∧ v = .int .i64 a ∧ u = .int .i64 ((a : Int) + 20) ∧ a ≤ n ∧ Sw 0 n L M ∧ St1 K n k M ∧ OwnI e B wr (.slice (some ⟨g, 0, none⟩) n c) M ∧ w.grownBy wr (some g)) (fun v _ _ => n + 20 - (intOf v).toNat)
  case atStart => exact ⟨0, 0, L, rfl, rfl, rfl, by omega, Sw.refl _ _ _, h10, hown, World.grownBy.refl _ _⟩
  case round =>
    clear hown h10 hn
    obtain ⟨k, a, M, hak, rfl, rfl, han, hsw, hst, ho, hg⟩ := hrel
    have HAK := Lib.hid hak
    have HSW := Lib.hid hsw
    have HST := Lib.hid hst
    have HLN := Lib.hid (hsw.1.trans HN.out)
    have HIN := Lib.hid (hsw.inR (by have := HN.out; omega) HR.out)
    clear hsw hst
    by_cases hab : a + 20 ≤ n
    · have hab2 : (a : Int) + 20 ≤ (n : Int) := by omega
      obtain ⟨b, hb⟩ : ∃ b, b = a + 20 := ⟨_, rfl⟩
      have wb : (a : Int) + 20 = (b : Int) := by omega
      have HBB := Lib.hid hb
      clear hb hak
      go_wp2_with fail
      refine (ins_n K (n : Int) e B g c bx a b n M wr HLN.out ho (by omega) (by omega) (by omega) HIN.out (by have h1 := st1_asc HST.out b (by omega); rw [← HAK.out] at h1; exact h1) (HC.out.kept hg)).mono ?_
      rintro en w2 ⟨M2, rfl, h1, h2, h3, h4⟩
      have HF := Lib.hid (show Sw 0 n L M2 ∧ St1 K n (k + 1) M2 from ⟨HSW.out.trans (h1.mono (Nat.zero_le _) (by omega)), by
        rw [HBB.out, HAK.out] at h1 h2
        exact st1_step HST.out (by have := HAK.out; omega) h1 h2⟩)
      have hg2 := grown_trans hg h4
      have hbn : b ≤ n := by omega
      have hab3 : a < b := by omega
      have HBK := Lib.hid (show b = (k + 1) * 20 by have := HBB.out; have := HAK.out; omega)
      clear h1 h2 h4 ho hg
      go_wp2
      go_roundw
      case rel => exact ⟨k + 1, b, M2, HBK.out, rfl, by first | rfl | (congr 1; omega), hbn, HF.out.1, HF.out.2, h3, hg2⟩
      case measure => simp [intOf]; omega
    · have hab2 : ¬ (a : Int) + 20 ≤ (n : Int) := by omega
      clear hak
      go_wp2_with fail
      refine (ins_n K (n : Int) e B g c bx a n n M wr HLN.out ho (by omega) (by omega) (by omega) HIN.out (by have h1 := st1_asc HST.out n (by omega); rw [← HAK.out] at h1; exact h1) (HC.out.kept hg)).mono ?_
      rintro en w2 ⟨M2, rfl, h1, h2, h3, h4⟩
      have HF := Lib.hid (show Sw 0 n L M2 ∧ SBk K 20 n M2 ∧ CSk 20 n M2 from ⟨HSW.out.trans (h1.mono (Nat.zero_le _) (by omega)), by
        rw [HAK.out] at h1 h2
        exact st1_end HST.out (by have := HAK.out; omega) (by have := HAK.out; omega) h1 h2⟩)
      have hg2 := grown_trans hg h4
      clear h1 h2 h4 ho hg
      go_wp2
      go_loopw [6] (fun v wr => ∃ (s : Nat) (M : List Int), v = .int .i64 s ∧ (sOk s ∨ s = 160) ∧ SBk K s n M ∧ CSk s n M ∧ Sw 0 n L M ∧ OwnI e B wr (.slice (some ⟨g, 0, none⟩) n c) M ∧ w.grownBy wr (some g)) (fun v _ => 160 - (intOf v).toNat)
      case atStart => exact ⟨20, M2, rfl, Or.inl (Or.inl rfl), HF.out.2.1, HF.out.2.2, HF.out.1, h3, hg2⟩
      case round =>
        clear h3 hg2
        obtain ⟨s, M, rfl, hs, hsb, hcs, hsw, ho, hg⟩ := hrel
        have HSW := Lib.hid hsw
        have HLN := Lib.hid (hsw.1.trans HN.out)
        have HIN := Lib.hid (hsw.inR (by have := HN.out; omega) HR.out)
        have HSB := Lib.hid hsb
        have HCS := Lib.hid hcs
        clear hsw hsb hcs
        by_cases hsn : s < n
        · have hsn2 : (s : Int) < (n : Int) := by omega
          have hso : sOk s := by rcases hs with h | h; exact h; omega
          have hs80 : s ≤ 80 ∧ 20 ≤ s := by unfold sOk at hso; omega
          obtain ⟨hs80, hs20⟩ := hs80
          obtain ⟨S, hS⟩ : ∃ S, S = 2 * s := ⟨_, rfl⟩
          have wS : 2 * (s : Int) = (S : Int) := by omega
          have wS2 : (s : Int) * 2 = (S : Int) := by omega
          have HSS := Lib.hid hS
          have HSO := Lib.hid hso
          have h20 := st2_zero HSB.out HCS.out
          have hS1 : S ≤ 160 := by omega
          have hS2 : s < S := by omega
          clear hs hS hso
          go_wp2
          go_loopw [7, 8] (fun v u wt => ∃ (k a : Nat) (M1 : List Int), a = k * (2 * s) ∧ v = .int .i64 a ∧ u = .int .i64 ((a : Int) + (S : Int)) ∧ a ≤ n ∧ Sw 0 n L M1 ∧ St2 K s n k M1 ∧ OwnI e B wt (.slice (some ⟨g, 0, none⟩) n c) M1 ∧ w.grownBy wt (some g)) (fun v _ _ => n + 160 - (intOf v).toNat)
          case atStart => exact ⟨0, 0, M, by omega, rfl, by first | rfl | (congr 1; omega), by omega, HSW.out, h20, ho, hg⟩
          case round =>
            clear ho hg h20
            obtain ⟨k, a, M1, hak, rfl, rfl, han, hsw, hst, ho, hg⟩ := hrel
            have HAK := Lib.hid hak
            have HSW := Lib.hid hsw
            have HST := Lib.hid hst
            have HLN := Lib.hid (hsw.1.trans HN.out)
            have HIN := Lib.hid (hsw.inR (by have := HN.out; omega) HR.out)
            clear hsw hst hak
            obtain ⟨m, hm⟩ : ∃ m, m = a + s := ⟨_, rfl⟩
            have wm : (a : Int) + (s : Int) = (m : Int) := by omega
            have HM := Lib.hid hm
            have hma : a < m := by omega
            clear hm
            by_cases hab : a + S ≤ n
            · have hab2 : (a : Int) + (S : Int) ≤ (n : Int) := by omega
              obtain ⟨b, hb⟩ : ∃ b, b = a + S := ⟨_, rfl⟩
              have wb : (a : Int) + (S : Int) = (b : Int) := by omega
              have HBB := Lib.hid hb
              have hbn : b ≤ n := by omega
              have hmb : m < b := by have := HM.out; omega
              have hpre := st2_pre (b := b) HSO.out HST.out (by have := HAK.out; have := HSS.out; have := HM.out; omega) hbn (by have := HAK.out; have := HSS.out; omega) (Or.inr (by have := HAK.out; have := HSS.out; omega))
              rw [← HAK.out, ← HM.out] at hpre
              clear hb
              go_wp2_with fail
              refine (mrg_n (K := K) (N := (n : Int)) (e := e) (B := B) (L := M1) (by omega) hma hmb hbn ho HLN.out HIN.out hpre (HC.out.kept hg)).mono ?_
              rintro en w2 ⟨M3, rfl, h1, h2, h3, h4⟩
              have HF := Lib.hid (show Sw 0 n L M3 ∧ St2 K s n (k + 1) M3 from ⟨HSW.out.trans (h1.mono (Nat.zero_le _) hbn), by
                rw [HBB.out, HSS.out, HAK.out] at h1 h2
                exact st2_step HSO.out HST.out (by have := HAK.out; have := HSS.out; omega) h1 h2⟩)
              have hg2 := grown_trans hg h4
              have HBK := Lib.hid (show b = (k + 1) * (2 * s) by rw [Nat.succ_mul k (2 * s), HBB.out, HAK.out, HSS.out])
              have hab3 : a < b := by omega
              clear h1 h2 h4 ho hg hpre
              go_wp2
              go_roundw
              case rel => exact ⟨k + 1, b, M3, HBK.out, rfl, by first | rfl | (congr 1; omega), hbn, HF.out.1, HF.out.2, h3, hg2⟩
              case measure => simp [intOf]; omega
            · have hab2 : ¬ (a : Int) + (S : Int) ≤ (n : Int) := by omega
              have HS160 := Lib.hid (show sOk S ∨ S = 160 by have h1 := HSO.out; have h2 := HSS.out; unfold sOk at h1 ⊢; omega)
              by_cases hmn : m < n
              · have hmn2 : (m : Int) < (n : Int) := by omega
                have hpre := st2_pre (b := n) HSO.out HST.out (by have := HAK.out; have := HSS.out; have := HM.out; omega) (Nat.le_refl _) (by have := HAK.out; have := HSS.out; omega) (Or.inl rfl)
                rw [← HAK.out, ← HM.out] at hpre
                go_wp2_with fail
                refine (mrg_n (K := K) (N := (n : Int)) (e := e) (B := B) (L := M1) (by omega) hma hmn (Nat.le_refl _) ho HLN.out HIN.out hpre (HC.out.kept hg)).mono ?_
                rintro en w2 ⟨M3, rfl, h1, h2, h3, h4⟩
                have HF := Lib.hid (show Sw 0 n L M3 ∧ SBk K S n M3 ∧ CSk S n M3 from ⟨HSW.out.trans (h1.mono (Nat.zero_le _) (Nat.le_refl _)), by
                  have hin := h1.inR (by have := HLN.out; omega) HIN.out
                  have hlt := inr_lt hin (h1.1.trans HLN.out)
                  rw [HAK.out] at h1 h2
                  rw [HSS.out]
                  exact st2_end HSO.out HST.out (by have := HAK.out; omega) (by have := HAK.out; have := HSS.out; omega) h1 h2 hlt⟩)
                have hg2 := grown_trans hg h4
                clear h1 h2 h4 ho hg hpre
                go_wp2
                go_roundw
                case rel => exact ⟨S, M3, rfl, HS160.out, HF.out.2.1, HF.out.2.2, HF.out.1, h3, hg2⟩
                case measure => simp [intOf]; omega
              · have hmn2 : ¬ (m : Int) < (n : Int) := by omega
                have HF := Lib.hid (show SBk K S n M1 ∧ CSk S n M1 by
                  have h2 := st2_one HSO.out HST.out (by have := HAK.out; have := HM.out; omega)
                  rw [HSS.out]
                  exact st2_end HSO.out HST.out (by have := HAK.out; omega) (by have := HAK.out; have := HSS.out; omega) (Sw.refl _ _ _) h2 (inr_lt HIN.out HLN.out))
                go_wp2
                go_roundw
                case rel => exact ⟨S, M1, rfl, HS160.out, HF.out.1, HF.out.2, HSW.out, ho, hg⟩
                case measure => simp [intOf]; omega
        · have hsn2 : ¬ (s : Int) < (n : Int) := by omega
          have HF := Lib.hid (sbk_all HSB.out (by omega))
          go_wp2
          go_end0
          exact ⟨M, rfl, HSW.out, HF.out, ho, hg⟩
theorem stable_any (K : Int → Int) (e B g n c bx : Nat) (L : List Int) (w : World) (hown : OwnI e B w (.slice (some ⟨g, 0, none⟩) n c) L) (hn : L.length = n) (hl : n ≤ 100) (hL : ∀ t, t < n → gt L t = (t : Int)) (hC : CmpOk K (n : Int) bx g w) :
    Calls Try.prog 76 #[.slice (some ⟨g, 0, none⟩) n c, cloV bx] w (SrtR K e B g n c 0 n L w) := by
  go_enter Try.func76, Try.ntmps76
  go_wp2_with fail
  refine (stb_any K e B g n c bx L w hown hn hl hL hC).mono ?_
  rintro en w2 ⟨M, rfl, h⟩
  go_wp2
  go_end0
  exact ⟨M, rfl, h⟩
end Go.Proofs.Ytkbceojeahninaa
