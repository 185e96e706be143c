/- The insertion sort of slices.SortStableFunc, in place. -/
import Derived.Test.YtkbceojeahninaaClo
import Derived.Test.YtkbceojeahninaaStbP
import Derived.RegionTactic
import Derived.ChangeAlike
namespace Go.Proofs.Ytkbceojeahninaa
open Go.ChangeShapes Go.WideShapes Go.ChangeAt Go.RowKit
set_option linter.unusedVariables false
/-- The comparison answers by the key, in every world that differs in block g alone. -/
def CmpOk (K : Int → Int) (N : Int) (bx g : Nat) (w : World) : Prop :=
  ∀ (W : World) (n : Nat), w.grownBy W (some g) → ∀ x y : Int, 0 ≤ x ∧ x < N → 0 ≤ y ∧ y < N → Calls Try.prog 77 #[.int .i64 x, .int .i64 y, .pointer (some ⟨bx, 0, none⟩)] (W.drewN n) fun e w' => e = .returned (.int .i64 (cmpZ (K x) (K y))) ∧ ∃ m, w' = W.drewN m
theorem CmpOk.kept {K : Int → Int} {N : Int} {bx g : Nat} {w w' : World} (h : CmpOk K N bx g w) (hg : w.grownBy w' (some g)) : CmpOk K N bx g w' := fun W n hW => h W n (grown_trans hg hW)
abbrev cloV (bx : Nat) : Value := .func (.func 77) #[] #[.pointer (some ⟨bx, 0, none⟩)]
/-- What a sort in place leaves. -/
def SrtR (K : Int → Int) (e B g n c a b : Nat) (L : List Int) (w : World) (en : Ending) (w' : World) : Prop :=
  ∃ M, en = .returned (.tuple #[]) ∧ Sw a b L M ∧ SrtK K M a b ∧ OwnI e B w' (.slice (some ⟨g, 0, none⟩) n c) M ∧ w.grownBy w' (some g)
attribute [local irreducible] gt cmpZ swp in
set_option maxHeartbeats 3200000 in
theorem ins_any (K : Int → Int) (N : Int) (e B g c bx a b : Nat) (L : List Int) (w : World) (hown : OwnI e B w (.slice (some ⟨g, 0, none⟩) L.length c) L) (hl : L.length ≤ 1000000) (hab : a ≤ b) (hb : b ≤ L.length) (hR : InR N L)
    (hA : ∀ t u, a ≤ t → t < u → u < b → gt L t < gt L u) (hC : CmpOk K N bx g w) :
    Calls Try.prog 111 #[.slice (some ⟨g, 0, none⟩) L.length c, .int .i64 a, .int .i64 b, cloV bx] w (SrtR K e B g L.length c a b L w) := by
  have HC := Lib.hid hC
  have HR := Lib.hid hR
  have HA := Lib.hid hA
  have hS0 : Sw a (a + 1) L L := Sw.refl _ _ _
  have hS1 := SrtK.one K L a (a + 1) (Nat.le_refl _)
  clear hC hR hA
  go_enter Try.func111, Try.ntmps111
  go_wp2
  go_loopw [8] (fun v wr => ∃ (i : Nat) (M : List Int), v = .int .i64 i ∧ a + 1 ≤ i ∧ (i ≤ b ∨ i = a + 1) ∧ (i = a + 1 → M = L) ∧ Sw a i L M ∧ SrtK K M a i ∧ OwnI e B wr (.slice (some ⟨g, 0, none⟩) L.length c) M ∧ w.grownBy wr (some g)) (fun v _ => b + 1 - (intOf v).toNat)
  case atStart => exact ⟨a + 1, L, by go_num, by omega, Or.inr rfl, fun _ => rfl, hS0, hS1, hown, World.grownBy.refl _ _⟩
  case round =>
    clear hown hS0 hS1
    obtain ⟨i, M, rfl, hi1, hi2, hML, hsw, hsr, ho, hg⟩ := hrel
    have HSW := Lib.hid hsw
    have HSR := Lib.hid hsr
    have HLN := Lib.hid hsw.1
    have HML := Lib.hid hML
    have HI2 := Lib.hid hi2
    clear hsw hsr hML hi2
    obtain ⟨wo, hwo⟩ : ∃ wo, wo = wr := ⟨wr, rfl⟩
    subst hwo
    by_cases hib : i < b
    · have hib2 : (i : Int) < (b : Int) := by omega
      have hI0 := InsI.start K (a := a) (i := i) M (by omega)
      have HLOW := Lib.hid (show ∀ t, a ≤ t → t < i → gt M t < gt M i from fun t t1 t2 => by
        rw [HSW.out.2.1 i (Or.inr (Nat.le_refl _))]
        exact HSW.out.all (p := fun x => x < gt L i) (fun u u1 u2 => HA.out u i u1 u2 hib) t t1 t2)
      go_wp2
      go_loopw [9] (fun v wt => ∃ (j : Nat) (M2 : List Int), v = .int .i64 j ∧ InsI K a i M M2 j ∧ OwnI e B wt (.slice (some ⟨g, 0, none⟩) L.length c) M2 ∧ w.grownBy wt (some g)) (fun v _ => (intOf v).toNat)
      case atStart => exact ⟨i, M, rfl, hI0, ho, hg⟩
      case round =>
        clear ho hg hI0
        obtain ⟨j, M2, rfl, hI, ho, hg⟩ := hrel
        have hja := hI.1
        have hji := hI.2.1
        have hl2 : M2.length = L.length := hI.2.2.2.2.2.2.1.trans HLN.out
        have HIN := Lib.hid (show InR N M2 from hI.2.2.2.2.2.2.inR (by have := HLN.out; omega) (HSW.out.inR (by omega) HR.out))
        have HI := Lib.hid hI
        have HL2 := Lib.hid hl2
        clear hI hl2
        by_cases hj : a < j
        · have hj2 : (a : Int) < (j : Int) := by omega
          obtain ⟨m, hm⟩ : ∃ m, j = m + 1 := ⟨j - 1, by omega⟩
          obtain ⟨g', he, _, _, hcl, hfr⟩ := ho.head (by have := HL2.out; omega)
          injection he with he
          injection he with he
          subst he
          have c1 := hcl j (by have := HL2.out; omega)
          have c2 := hcl m (by have := HL2.out; omega)
          have f1 := hfr j
          have f2 := hfr m
          have r1 := HIN.out j (by have := HL2.out; omega)
          have r2 := HIN.out m (by have := HL2.out; omega)
          have h0a : (0 : Int) ≤ (j : Int) := by omega
          have h0b : (j : Int) < (L.length : Int) := by omega
          have h0c : (0 : Int) ≤ (m : Int) := by omega
          have h0d : (m : Int) < (L.length : Int) := by omega
          have HWm := Lib.hid (show IntKind.i64.wrap ((j : Int) - 1) = (m : Int) by rw [show ((j : Int) - 1) = (m : Int) by omega]; exact IntWalk.i64_in _ (by omega))
          have HCW := Lib.hid (fun n => HC.out wr n hg (gt M2 j) (gt M2 m) r1 r2)
          have HJM := Lib.hid (show j - 1 = m by omega)
          obtain ⟨x, hx⟩ : ∃ x, x = gt M2 j := ⟨_, rfl⟩
          obtain ⟨y, hy⟩ : ∃ y, y = gt M2 m := ⟨_, rfl⟩
          rw [← hx, ← hy] at HCW
          rw [← hx] at c1
          rw [← hy] at c2
          have HX := Lib.hid hx
          have HY := Lib.hid hy
          by_cases hk : K x < K y
          · have q1 : decide (cmpZ (K x) (K y) < 0) = true := decide_eq_true (cmpZ_neg.2 hk)
            have q2 : cmpZ (K x) (K y) < 0 := cmpZ_neg.2 hk
            have HST := Lib.hid (show InsI K a i M (swp M2 j m) m by have h1 := HI.out.step (by have := HLN.out; omega) hj (by rw [HJM.out, ← hx, ← hy]; exact hk); rw [HJM.out] at h1; exact h1)
            have hne : j ≠ m := by omega
            have HO := Lib.hid (fun (n : Nat) => And.intro (((show OwnI e B (wr.drewN n) (.slice (some ⟨g, 0, none⟩) L.length c) M2 from ho).stored j y).1.stored m x).1
              (grown_trans (grown_drewN hg n) (grown_trans ((show OwnI e B (wr.drewN n) (.slice (some ⟨g, 0, none⟩) L.length c) M2 from ho).stored j y).2 (((show OwnI e B (wr.drewN n) (.slice (some ⟨g, 0, none⟩) L.length c) M2 from ho).stored j y).1.stored m x).2)))
            have HSP := Lib.hid (show (M2.set j y).set m x = swp M2 j m by unfold swp; rw [← hx, ← hy])
            clear hk hcl hfr ho hg hx hy hm r1 r2
            go_wp2_with fail
            have hwm := HWm.out
            go_quiet ((go_at_call 77; exact HCW.out _))
            go_wp2_with fail
            go_region
            generalize hWv : ((wr.drewN _).setCell _ _).setCell _ _ = W2
            have ho2 : OwnI e B W2 (.slice (some ⟨g, 0, none⟩) L.length c) (swp M2 j m) := by rw [← hWv, ← HSP.out]; exact (HO.out _).1
            have hg2 : w.grownBy W2 (some g) := by rw [← hWv]; exact (HO.out _).2
            clear hWv hwm c1 c2 f1 f2
            go_wp2
            go_roundw
            case rel => exact ⟨m, swp M2 j m, by have := HJM.out; go_num, HST.out, ho2, hg2⟩
            case measure => simp [intOf]; omega
          · have q1 : decide (cmpZ (K x) (K y) < 0) = false := decide_eq_false fun h => hk (cmpZ_neg.1 h)
            have q2 : ¬ cmpZ (K x) (K y) < 0 := fun h => hk (cmpZ_neg.1 h)
            have HD := Lib.hid (HI.out.done HSR.out HLOW.out (Or.inr (by rw [HJM.out, ← hx, ← hy]; exact hk)))
            have HSN := Lib.hid ((HSW.out.mono (Nat.le_refl _) (Nat.le_succ _)).trans HI.out.2.2.2.2.2.2)
            clear hk hcl hfr hx hy hm r1 r2 f1 f2
            go_wp2_with fail
            have hwm := HWm.out
            go_quiet ((go_at_call 77; exact HCW.out _))
            clear hwm
            go_wp2
            go_roundw
            case rel => exact ⟨i + 1, M2, by go_num, by omega, Or.inl (by omega), fun h => by omega, HSN.out, HD.out, ho, grown_drewN hg _⟩
            case measure => simp [intOf]; omega
        · obtain rfl : j = a := by omega
          have hj2 : ¬ (j : Int) < (j : Int) := by omega
          have HD := Lib.hid (HI.out.done HSR.out HLOW.out (Or.inl rfl))
          have HSN := Lib.hid ((HSW.out.mono (Nat.le_refl _) (Nat.le_succ _)).trans HI.out.2.2.2.2.2.2)
          go_wp2_with fail
          go_quiet (fail)
          go_wp2
          go_roundw
          case rel => exact ⟨i + 1, M2, by go_num, by omega, Or.inl (by omega), fun h => by omega, HSN.out, HD.out, ho, grown_drewN hg _⟩
          case measure => simp [intOf]; omega
    · have hib2 : ¬ (i : Int) < (b : Int) := by omega
      have HE := Lib.hid (show Sw a b L M ∧ SrtK K M a b by
        rcases HI2.out with h | h
        · obtain rfl : i = b := by omega
          exact ⟨HSW.out, HSR.out⟩
        · by_cases e : i = b
          · subst e; exact ⟨HSW.out, HSR.out⟩
          · rw [HML.out h]; exact ⟨Sw.refl _ _ _, SrtK.one K L a b (by omega)⟩)
      go_wp2
      go_end0
      exact ⟨M, rfl, HE.out.1, HE.out.2, ho, hg⟩
end Go.Proofs.Ytkbceojeahninaa
