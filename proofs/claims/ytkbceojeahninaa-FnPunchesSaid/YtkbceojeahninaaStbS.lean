/- Merging in place (slices.SortStableFunc): where one side is a single number. -/
import Derived.Test.YtkbceojeahninaaStbR
namespace Go.Proofs.Ytkbceojeahninaa
open Go.ChangeShapes Go.WideShapes Go.ChangeAt Go.RowKit
set_option linter.unusedVariables false
theorem half_in {i j : Nat} (h : i < j) : ∃ m : Nat, m = (i + j) / 2 ∧ i ≤ m ∧ m < j ∧ ((i : Int) + (j : Int)) / 2 = (m : Int) := ⟨(i + j) / 2, rfl, by omega, by omega, by omega⟩
attribute [local irreducible] gt swp cmpZ in
set_option maxHeartbeats 12800000 in
set_option maxRecDepth 100000 in
theorem mrg_one (K : Int → Int) (N : Int) (e B g n c bx a m b : Nat) (L : List Int) (w : World) (hown : OwnI e B w (.slice (some ⟨g, 0, none⟩) n c) L) (hn : L.length = n) (hl : n ≤ 1000000) (ham : m = a + 1) (hmb : m < b) (hb : b ≤ n) (hR : InR N L)
    (hS : SrtK K L m b) (hW : LowK L a m b) (hC : CmpOk K N bx g w) :
    Calls Try.prog 112 #[.slice (some ⟨g, 0, none⟩) n c, .int .i64 a, .int .i64 m, .int .i64 b, cloV bx] w (SrtR K e B g n c a b L w) := by
  have HC := Lib.hid hC
  have HR := Lib.hid hR
  have HS := Lib.hid hS
  have HW := Lib.hid (fun t (t1 : a < t) (t2 : t < b) => hW a t (Nat.le_refl _) (by omega) (by omega) t2)
  have HN := Lib.hid hn
  have HAM := Lib.hid ham
  have w1 : (m : Int) - (a : Int) = 1 := by omega
  have ml : m ≤ 1000000 := by omega
  clear hC hR hS hW hn ham
  go_enter Try.func112, Try.ntmps112
  go_wp2
  go_loopw [10, 11] (fun v u wr => ∃ i j : Nat, v = .int .i64 i ∧ u = .int .i64 j ∧ m ≤ i ∧ i ≤ j ∧ j ≤ b ∧ (∀ t, m ≤ t → t < i → K (gt L t) < K (gt L a)) ∧ (∀ t, j ≤ t → t < b → K (gt L a) ≤ K (gt L t)) ∧ OwnI e B wr (.slice (some ⟨g, 0, none⟩) n c) L ∧ w.grownBy wr (some g)) (fun v u _ => (intOf u).toNat - (intOf v).toNat)
  case atStart => exact ⟨m, b, rfl, rfl, Nat.le_refl _, by omega, Nat.le_refl _, fun t h1 h2 => by omega, fun t h1 h2 => by omega, hown, World.grownBy.refl _ _⟩
  case round =>
    clear hown
    obtain ⟨i, j, rfl, rfl, hi, hij, hj, hp, hq, ho, hg⟩ := hrel
    have HP := Lib.hid hp
    have HQ := Lib.hid hq
    clear hp hq
    by_cases hlt : i < j
    · have hlt2 : (i : Int) < (j : Int) := by omega
      obtain ⟨h, hh, h1, h2, h3⟩ := half_in hlt
      obtain ⟨g', he, _, _, hcl, hfr⟩ := ho.head (by have := HN.out; omega)
      injection he with he
      injection he with he
      subst he
      have c1 := hcl h (by have := HN.out; omega)
      have c2 := hcl a (by have := HN.out; have := HAM.out; omega)
      have r1 := HR.out h (by have := HN.out; omega)
      have r2 := HR.out a (by have := HN.out; have := HAM.out; omega)
      have h0a : (0 : Int) ≤ (h : Int) := by omega
      have h0b : (h : Int) < (n : Int) := by omega
      have h0c : (0 : Int) ≤ (a : Int) := by omega
      have h0d : (a : Int) < (n : Int) := by have := HAM.out; omega
      have HCW := Lib.hid (fun q => HC.out wr q hg (gt L h) (gt L a) r1 r2)
      have HH := Lib.hid hh
      clear hcl hfr hh r1 r2
      by_cases hk : K (gt L h) < K (gt L a)
      · have q1 : decide (cmpZ (K (gt L h)) (K (gt L a)) < 0) = true := decide_eq_true (cmpZ_neg.2 hk)
        have q2 : cmpZ (K (gt L h)) (K (gt L a)) < 0 := cmpZ_neg.2 hk
        have HP2 := Lib.hid (show ∀ t, m ≤ t → t < h + 1 → K (gt L t) < K (gt L a) from fun t t1 t2 => by have := HS.out.le t1 (show t ≤ h by omega) (by omega); omega)
        clear hk
        go_wp2_with fail
        go_quiet ((go_at_call 77; exact HCW.out _))
        go_wp2
        go_roundw
        case rel => exact ⟨h + 1, j, by go_num, rfl, by omega, by omega, hj, HP2.out, HQ.out, ho, grown_drewN hg _⟩
        case measure => simp [intOf]; omega
      · have q1 : decide (cmpZ (K (gt L h)) (K (gt L a)) < 0) = false := decide_eq_false fun h => hk (cmpZ_neg.1 h)
        have q2 : ¬ cmpZ (K (gt L h)) (K (gt L a)) < 0 := fun h => hk (cmpZ_neg.1 h)
        have HP2 := Lib.hid (show ∀ t, h ≤ t → t < b → K (gt L a) ≤ K (gt L t) from fun t t1 t2 => by have := HS.out.le (show m ≤ h by omega) t1 t2; omega)
        clear hk
        go_wp2_with fail
        go_quiet ((go_at_call 77; exact HCW.out _))
        go_wp2
        go_roundw
        case rel => exact ⟨i, h, rfl, rfl, hi, by omega, by omega, HP.out, HP2.out, ho, grown_drewN hg _⟩
        case measure => simp [intOf]; omega
    · obtain rfl : j = i := by omega
      have hlt2 : ¬ (j : Int) < (j : Int) := by omega
      obtain ⟨q, hq⟩ : ∃ q, j = q + 1 := ⟨j - 1, by omega⟩
      have w2 : (j : Int) - 1 = (q : Int) := by omega
      have hql : q ≤ 1000000 := by omega
      have HQJ := Lib.hid (show q = j - 1 by omega)
      have hsh := ShL.start (a := a) (i := j) L (by have := HAM.out; omega)
      clear hq
      go_wp2
      go_loopw [13] (fun v wt => ∃ (k : Nat) (M : List Int), v = .int .i64 k ∧ ShL a j L M k ∧ OwnI e B wt (.slice (some ⟨g, 0, none⟩) n c) M ∧ w.grownBy wt (some g)) (fun v _ => j - (intOf v).toNat)
      case atStart => exact ⟨a, L, rfl, hsh, ho, hg⟩
      case round =>
        clear ho hg hsh
        obtain ⟨k, M, rfl, hk, ho, hg⟩ := hrel
        have HK := Lib.hid hk
        have hka := hk.1
        have hkj := hk.2.1
        have hlm : M.length = n := hk.2.2.2.2.2.2.1.trans HN.out
        have HLM := Lib.hid hlm
        clear hk hlm
        by_cases hkq : k < q
        · have hkq2 : (k : Int) < (q : Int) := by omega
          obtain ⟨k1, hk1⟩ : ∃ k1, k1 = k + 1 := ⟨_, rfl⟩
          obtain ⟨g', he, _, _, hcl, hfr⟩ := ho.head (by have := HLM.out; omega)
          injection he with he
          injection he with he
          subst he
          have c1 := hcl k (by have := HLM.out; have := HQJ.out; omega)
          have c2 := hcl k1 (by have := HLM.out; have := HQJ.out; omega)
          have f1 := hfr k
          have f2 := hfr k1
          have h0a : (0 : Int) ≤ (k : Int) := by omega
          have h0b : (k : Int) < (n : Int) := by omega
          have h0c : (0 : Int) ≤ (k1 : Int) := by omega
          have h0d : (k1 : Int) < (n : Int) := by omega
          have HWp := Lib.hid (show IntKind.i64.wrap ((k : Int) + 1) = (k1 : Int) by rw [show ((k : Int) + 1) = (k1 : Int) by omega]; exact IntWalk.i64_in _ (by omega))
          obtain ⟨x, hx⟩ : ∃ x, x = gt M k := ⟨_, rfl⟩
          obtain ⟨y, hy⟩ : ∃ y, y = gt M k1 := ⟨_, rfl⟩
          rw [← hx] at c1
          rw [← hy] at c2
          have hne : k ≠ k1 := by omega
          have HO := Lib.hid (own_stored3 ho hg k k1 y x)
          have HSP := Lib.hid (show (M.set k y).set k1 x = swp M k k1 by unfold swp; rw [← hx, ← hy])
          have HK1 := Lib.hid (show (k : Int) + 1 = (k1 : Int) by omega)
          have hkk : k < k1 := by omega
          have HST := Lib.hid (show ShL a j L (swp M k k1) k1 by rw [hk1]; exact HK.out.step (by have := HN.out; omega) (by have := HQJ.out; omega))
          clear hcl hfr ho hg hx hy hk1
          go_wp2_with fail
          have v1 := HWp.out
          go_region
          generalize hWv : World.drew (((wr.setCell _ _).setCell _ _)) = W2
          have ho2 : OwnI e B W2 (.slice (some ⟨g, 0, none⟩) n c) (swp M k k1) := by rw [← hWv, ← HSP.out]; exact HO.out.1
          have hg2 : w.grownBy W2 (some g) := by rw [← hWv]; exact HO.out.2
          clear hWv v1 c1 c2 f1 f2
          go_wp2
          go_roundw
          case rel => exact ⟨k1, swp M k k1, by first | rfl | (rw [HK1.out]) | (congr 1; exact HK1.out), HST.out, ho2, hg2⟩
          case measure => simp [intOf]; omega
        · have hkq2 : ¬ (k : Int) < (q : Int) := by omega
          have HE := Lib.hid (show Sw a b L M ∧ SrtK K M a b by
            obtain rfl : k = j - 1 := by have := HQJ.out; omega
            exact ⟨HK.out.2.2.2.2.2.2.mono (Nat.le_refl _) hj, HK.out.done hj (by have := HAM.out; rw [← this]; exact HS.out) HW.out (fun t t1 t2 => HP.out t (by have := HAM.out; omega) t2) (fun t t1 t2 => Int.not_lt.2 (HQ.out t t1 t2))⟩)
          go_wp2
          ((try simp only [Exit.inBlock, Exit.then]); refine bodyPost_ret (results_none rfl _ _ _) rfl ?_)
          exact ⟨M, rfl, HE.out.1, HE.out.2, ho, hg⟩
attribute [local irreducible] gt swp cmpZ in
set_option maxHeartbeats 12800000 in
set_option maxRecDepth 100000 in
theorem mrg_last (K : Int → Int) (N : Int) (e B g n c bx a m b : Nat) (L : List Int) (w : World) (hown : OwnI e B w (.slice (some ⟨g, 0, none⟩) n c) L) (hn : L.length = n) (hl : n ≤ 1000000) (ham : a + 1 < m) (hmb : b = m + 1) (hb : b ≤ n) (hR : InR N L)
    (hS : SrtK K L a m) (hW : LowK L a m b) (hC : CmpOk K N bx g w) :
    Calls Try.prog 112 #[.slice (some ⟨g, 0, none⟩) n c, .int .i64 a, .int .i64 m, .int .i64 b, cloV bx] w (SrtR K e B g n c a b L w) := by
  have HC := Lib.hid hC
  have HR := Lib.hid hR
  have HS := Lib.hid hS
  have HW := Lib.hid (fun t (t1 : a ≤ t) (t2 : t < m) => hW t m t1 t2 (Nat.le_refl _) (by omega))
  have HN := Lib.hid hn
  have HMB := Lib.hid hmb
  have w0 : ((m : Int) - (a : Int) == 1) = false := beq_eq_false_iff_ne.2 (by omega)
  have w1 : (b : Int) - (m : Int) = 1 := by omega
  have ml : m ≤ 1000000 := by omega
  clear hC hR hS hW hn hmb
  go_enter Try.func112, Try.ntmps112
  go_wp2
  go_loopw [14, 15] (fun v u wr => ∃ i j : Nat, v = .int .i64 i ∧ u = .int .i64 j ∧ a ≤ i ∧ i ≤ j ∧ j ≤ m ∧ (∀ t, a ≤ t → t < i → K (gt L t) ≤ K (gt L m)) ∧ (∀ t, j ≤ t → t < m → K (gt L m) < K (gt L t)) ∧ OwnI e B wr (.slice (some ⟨g, 0, none⟩) n c) L ∧ w.grownBy wr (some g)) (fun v u _ => (intOf u).toNat - (intOf v).toNat)
  case atStart => exact ⟨a, m, rfl, rfl, Nat.le_refl _, by omega, Nat.le_refl _, fun t h1 h2 => by omega, fun t h1 h2 => by omega, hown, World.grownBy.refl _ _⟩
  case round =>
    clear hown
    obtain ⟨i, j, rfl, rfl, hi, hij, hj, hp, hq, ho, hg⟩ := hrel
    have HP := Lib.hid hp
    have HQ := Lib.hid hq
    clear hp hq
    by_cases hlt : i < j
    · have hlt2 : (i : Int) < (j : Int) := by omega
      obtain ⟨h, hh, h1, h2, h3⟩ := half_in hlt
      obtain ⟨g', he, _, _, hcl, hfr⟩ := ho.head (by have := HN.out; omega)
      injection he with he
      injection he with he
      subst he
      have c1 := hcl h (by have := HN.out; omega)
      have c2 := hcl m (by have := HN.out; have := HMB.out; omega)
      have r1 := HR.out h (by have := HN.out; omega)
      have r2 := HR.out m (by have := HN.out; have := HMB.out; omega)
      have h0a : (0 : Int) ≤ (h : Int) := by omega
      have h0b : (h : Int) < (n : Int) := by omega
      have h0c : (0 : Int) ≤ (m : Int) := by omega
      have h0d : (m : Int) < (n : Int) := by have := HMB.out; omega
      have HCW := Lib.hid (fun q => HC.out wr q hg (gt L m) (gt L h) r2 r1)
      have HH := Lib.hid hh
      clear hcl hfr hh r1 r2
      by_cases hk : K (gt L m) < K (gt L h)
      · have q1 : decide (cmpZ (K (gt L m)) (K (gt L h)) < 0) = true := decide_eq_true (cmpZ_neg.2 hk)
        have q2 : cmpZ (K (gt L m)) (K (gt L h)) < 0 := cmpZ_neg.2 hk
        have HP2 := Lib.hid (show ∀ t, h ≤ t → t < m → K (gt L m) < K (gt L t) from fun t t1 t2 => by have := HS.out.le (show a ≤ h by omega) t1 t2; omega)
        clear hk
        go_wp2_with fail
        go_quiet ((go_at_call 77; exact HCW.out _))
        go_wp2
        go_roundw
        case rel => exact ⟨i, h, rfl, rfl, hi, by omega, by omega, HP.out, HP2.out, ho, grown_drewN hg _⟩
        case measure => simp [intOf]; omega
      · have q1 : decide (cmpZ (K (gt L m)) (K (gt L h)) < 0) = false := decide_eq_false fun h => hk (cmpZ_neg.1 h)
        have q2 : ¬ cmpZ (K (gt L m)) (K (gt L h)) < 0 := fun h => hk (cmpZ_neg.1 h)
        have HP2 := Lib.hid (show ∀ t, a ≤ t → t < h + 1 → K (gt L t) ≤ K (gt L m) from fun t t1 t2 => by have := HS.out.le t1 (show t ≤ h by omega) (by omega); omega)
        clear hk
        go_wp2_with fail
        go_quiet ((go_at_call 77; exact HCW.out _))
        go_wp2
        go_roundw
        case rel => exact ⟨h + 1, j, by go_num, rfl, by omega, by omega, hj, HP2.out, HQ.out, ho, grown_drewN hg _⟩
        case measure => simp [intOf]; omega
    · obtain rfl : j = i := by omega
      have hlt2 : ¬ (j : Int) < (j : Int) := by omega
      have hsh := ShR.start (i := j) (m := m) L hj
      go_wp2
      go_loopw [17] (fun v wt => ∃ (k : Nat) (M : List Int), v = .int .i64 k ∧ ShR j m L M k ∧ OwnI e B wt (.slice (some ⟨g, 0, none⟩) n c) M ∧ w.grownBy wt (some g)) (fun v _ => (intOf v).toNat)
      case atStart => exact ⟨m, L, rfl, hsh, ho, hg⟩
      case round =>
        clear ho hg hsh
        obtain ⟨k, M, rfl, hk, ho, hg⟩ := hrel
        have HK := Lib.hid hk
        have hka := hk.1
        have hkj := hk.2.1
        have hlm : M.length = n := hk.2.2.2.2.2.2.1.trans HN.out
        have HLM := Lib.hid hlm
        clear hk hlm
        by_cases hkq : j < k
        · have hkq2 : (j : Int) < (k : Int) := by omega
          obtain ⟨k1, hk1⟩ : ∃ k1, k1 = k - 1 := ⟨_, rfl⟩
          obtain ⟨g', he, _, _, hcl, hfr⟩ := ho.head (by have := HLM.out; omega)
          injection he with he
          injection he with he
          subst he
          have c1 := hcl k (by have := HLM.out; have := HMB.out; omega)
          have c2 := hcl k1 (by have := HLM.out; have := HMB.out; omega)
          have f1 := hfr k
          have f2 := hfr k1
          have h0a : (0 : Int) ≤ (k : Int) := by omega
          have h0b : (k : Int) < (n : Int) := by have := HMB.out; omega
          have h0c : (0 : Int) ≤ (k1 : Int) := by omega
          have h0d : (k1 : Int) < (n : Int) := by omega
          have HWp := Lib.hid (show IntKind.i64.wrap ((k : Int) - 1) = (k1 : Int) by rw [show ((k : Int) - 1) = (k1 : Int) by omega]; exact IntWalk.i64_in _ (by omega))
          obtain ⟨x, hx⟩ : ∃ x, x = gt M k := ⟨_, rfl⟩
          obtain ⟨y, hy⟩ : ∃ y, y = gt M k1 := ⟨_, rfl⟩
          rw [← hx] at c1
          rw [← hy] at c2
          have hne : k ≠ k1 := by omega
          have HO := Lib.hid (own_stored3 ho hg k k1 y x)
          have HSP := Lib.hid (show (M.set k y).set k1 x = swp M k k1 by unfold swp; rw [← hx, ← hy])
          have HST := Lib.hid (show ShR j m L (swp M k k1) k1 by rw [hk1]; exact HK.out.step (by have := HN.out; have := HMB.out; omega) hkq)
          have HK1 := Lib.hid (show (k : Int) - 1 = (k1 : Int) by omega)
          have hk1k : k1 < k := by omega
          clear hcl hfr ho hg hx hy hk1
          go_wp2_with fail
          have v1 := HWp.out
          go_region
          generalize hWv : World.drew (((wr.setCell _ _).setCell _ _)) = W2
          have ho2 : OwnI e B W2 (.slice (some ⟨g, 0, none⟩) n c) (swp M k k1) := by rw [← hWv, ← HSP.out]; exact HO.out.1
          have hg2 : w.grownBy W2 (some g) := by rw [← hWv]; exact HO.out.2
          clear hWv v1 c1 c2 f1 f2
          have v2 := HK1.out
          go_wp2
          go_roundw
          case rel => exact ⟨k1, swp M k k1, by first | rfl | (congr 1; omega), HST.out, ho2, hg2⟩
          case measure => simp [intOf]; omega
        · have hkq2 : ¬ (j : Int) < (k : Int) := by omega
          have HE := Lib.hid (show Sw a b L M ∧ SrtK K M a b by
            obtain rfl : k = j := by omega
            rw [HMB.out]
            exact ⟨HK.out.2.2.2.2.2.2.mono hi (Nat.le_refl _), HK.out.done hi HS.out HW.out (fun t t1 t2 => Int.not_lt.2 (HP.out t t1 t2)) HQ.out⟩)
          go_wp2
          ((try simp only [Exit.inBlock, Exit.then]); refine bodyPost_ret (results_none rfl _ _ _) rfl ?_)
          exact ⟨M, rfl, HE.out.1, HE.out.2, ho, hg⟩
end Go.Proofs.Ytkbceojeahninaa
