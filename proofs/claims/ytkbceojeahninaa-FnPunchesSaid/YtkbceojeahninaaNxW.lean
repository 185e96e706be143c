/- impl.nextOrder: the list becomes the next order in place. -/
import Derived.Test.YtkbceojeahninaaNxP
import Derived.RegionTactic
import Derived.ChangeAlike
namespace Go.Proofs.Ytkbceojeahninaa
open Go.ChangeShapes Go.WideShapes Go.ChangeAt Go.RowKit
set_option linter.unusedVariables false
theorem own_len {e B n c : Nat} {w : World} {A : Option Addr} {L : List Int} (h : OwnI e B w (.slice A n c) L) : n = L.length := by
  obtain ⟨A', c', he, _⟩ := h.rd
  injection he
attribute [local irreducible] gt nxt in
set_option maxHeartbeats 3200000 in
theorem next_any (e B g c : Nat) (L : List Int) (w : World) (hown : OwnI e B w (.slice (some ⟨g, 0, none⟩) L.length c) L) (hl : L.length ≤ 1000000) (hn : L.Nodup) :
    Calls Try.prog 74 #[.slice (some ⟨g, 0, none⟩) L.length c] w fun en w' => en = .returned (.bool (nxt L).isSome) ∧ OwnI e B w' (.slice (some ⟨g, 0, none⟩) L.length c) ((nxt L).getD L) ∧ w.grownBy w' (some g) := by
  have HN := Lib.hid hn
  have HDA := Lib.hid (desc_all (l := L))
  have HNE := Lib.hid (fun (L' : List Int) (i k : Nat) (h1 : i < k) (h2 : k < L.length) => next_eq (L' := L') h1 h2 hn)
  clear hn
  go_enter Try.func74, Try.ntmps74
  go_wp2
  go_loopw [3] (fun v wr => ∃ z : Int, v = .int .i64 z ∧ -2 ≤ z ∧ z ≤ (L.length : Int) - 2 ∧ (∀ j : Nat, z < (j : Int) → j + 1 < L.length → gt L (j + 1) < gt L j) ∧ OwnI e B wr (.slice (some ⟨g, 0, none⟩) L.length c) L ∧ w.grownBy wr (some g)) (fun v _ => (intOf v + 2).toNat)
  case atStart => exact ⟨(L.length : Int) - 2, rfl, by omega, by omega, fun j h1 h2 => by omega, hown, World.grownBy.refl _ _⟩
  case round =>
    clear hown
    obtain ⟨z, rfl, hz1, hz2, hD, ho, hg⟩ := hrel
    have HD := Lib.hid hD
    clear hD
    by_cases hz0 : 0 ≤ z
    · obtain ⟨i, rfl⟩ : ∃ i : Nat, z = (i : Int) := ⟨z.toNat, by omega⟩
      obtain ⟨m, hm⟩ : ∃ m, m = i + 1 := ⟨i + 1, rfl⟩
      have hml : m < L.length := by omega
      obtain ⟨g', he, _, _, hcl, hfr⟩ := ho.head (by omega)
      injection he with he
      injection he with he
      subst he
      have c1 := hcl i (by omega)
      have c2 := hcl m hml
      have h0a : (0 : Int) ≤ (i : Int) := by omega
      have h0b : (i : Int) < (L.length : Int) := by omega
      have h0c : (0 : Int) ≤ (m : Int) := by omega
      have h0d : (m : Int) < (L.length : Int) := by omega
      have HWm := Lib.hid (show IntKind.i64.wrap ((i : Int) + 1) = (m : Int) by rw [show ((i : Int) + 1) = (m : Int) by omega]; exact IntWalk.i64_in _ (by omega))
      have HM := Lib.hid hm
      by_cases hgt : gt L m < gt L i
      · have HD2 := Lib.hid (show ∀ j : Nat, (i : Int) - 1 < (j : Int) → j + 1 < L.length → gt L (j + 1) < gt L j from fun j h1 h2 => by
          by_cases e : j = i
          · subst e; rw [← hm]; exact hgt
          · exact HD.out j (by omega) h2)
        clear hcl hfr hm
        go_wp2_with fail
        have hwm := HWm.out
        go_quiet (fail)
        clear hwm
        go_wp2
        go_roundw
        case rel => exact ⟨(i : Int) - 1, by go_num, by omega, by omega, HD2.out, ho, grown_drewN hg _⟩
        case measure => simp [intOf]; omega
      · have HGT := Lib.hid hgt
        have hd1 : decide (gt L m < gt L i) = false := decide_eq_false hgt
        have hd3 : decide ((i : Int) < 0) = false := decide_eq_false (by omega)
        clear hcl hfr hm
        go_wp2_with fail
        have hwm := HWm.out
        go_quiet (fail)
        clear hwm
        generalize hWq : (wr.drewN _) = W0
        have hoq : OwnI e B W0 (.slice (some ⟨g, 0, none⟩) L.length c) L := by rw [← hWq]; exact ho
        have hgq : w.grownBy W0 (some g) := by rw [← hWq]; exact grown_drewN hg _
        clear ho hg c1 c2 hWq
        go_wp2
        go_loopw [4] (fun v wt => ∃ k : Nat, i < k ∧ k < L.length ∧ v = .int .i64 (k : Int) ∧ (∀ j, k < j → j < L.length → gt L j < gt L i) ∧ OwnI e B wt (.slice (some ⟨g, 0, none⟩) L.length c) L ∧ w.grownBy wt (some g)) (fun v _ => (intOf v).toNat)
        case atStart => exact ⟨L.length - 1, by omega, by omega, by congr 1; omega, fun j h1 h2 => by omega, hoq, hgq⟩
        case round =>
          clear hoq hgq
          obtain ⟨k, hik, hkl, rfl, hlo, ho, hg⟩ := hrel
          have HLO := Lib.hid hlo
          obtain ⟨g', he, _, _, hcl, hfr⟩ := ho.head (by omega)
          injection he with he
          injection he with he
          subst he
          have c1 := hcl i (by omega)
          have c2 := hcl k hkl
          have f1 := hfr i
          have f2 := hfr k
          have h0e : (0 : Int) ≤ (k : Int) := by omega
          have h0f : (k : Int) < (L.length : Int) := by omega
          clear hcl hfr hlo
          by_cases hlt : gt L k < gt L i
          · have hik2 : i < k - 1 := by
              have h1 := HGT.out
              have h2 := HM.out
              by_cases e : k = i + 1
              · rw [e, ← h2] at hlt; omega
              · omega
            have HL2 := Lib.hid (show ∀ j, k - 1 < j → j < L.length → gt L j < gt L i from fun j h1 h2 => by
              by_cases e : j = k
              · subst e; exact hlt
              · exact HLO.out j (by omega) h2)
            go_wp2_with fail
            go_quiet (fail)
            go_wp2
            go_roundw
            case rel => exact ⟨k - 1, hik2, by omega, by congr 1; omega, HL2.out, ho, grown_drewN hg _⟩
            case measure => simp [intOf]; omega
          · have HLT := Lib.hid hlt
            have hne : i ≠ k := by omega
            have hnek : k ≠ i := by omega
            obtain ⟨x, hx⟩ : ∃ x, x = gt L i := ⟨_, rfl⟩
            obtain ⟨y, hy⟩ : ∃ y, y = gt L k := ⟨_, rfl⟩
            have HO := Lib.hid (fun (n : Nat) => And.intro (((show OwnI e B (wr.drewN n) (.slice (some ⟨g, 0, none⟩) L.length c) L from ho).stored i y).1.stored k x).1
              (grown_trans (grown_drewN hg n) (grown_trans ((show OwnI e B (wr.drewN n) (.slice (some ⟨g, 0, none⟩) L.length c) L from ho).stored i y).2 (((show OwnI e B (wr.drewN n) (.slice (some ⟨g, 0, none⟩) L.length c) L from ho).stored i y).1.stored k x).2)))
            rw [← hx] at c1
            rw [← hy] at c2
            have hlt' : ¬ y < x := by rw [hx, hy]; exact hlt
            have hd2 : decide (y < x) = false := decide_eq_false hlt'
            have HX := Lib.hid hx
            have HY := Lib.hid hy
            have hL1 : ((L.set i y).set k x).length = L.length := by rw [List.length_set, List.length_set]
            have HL1 := Lib.hid hL1
            have HST := Lib.hid (rev_step ((L.set i y).set k x))
            clear hlt ho hg hx hy hL1
            go_wp2_with fail
            go_quiet (fail)
            go_wp2_with fail
            go_region
            generalize hWv : ((wr.drewN _).setCell _ _).setCell _ _ = W2
            have ho2 : OwnI e B W2 (.slice (some ⟨g, 0, none⟩) L.length c) ((L.set i y).set k x) := by rw [← hWv]; exact (HO.out _).1
            have hg2 : w.grownBy W2 (some g) := by rw [← hWv]; exact (HO.out _).2
            obtain ⟨L1, hL1⟩ : ∃ L1, L1 = (L.set i y).set k x := ⟨_, rfl⟩
            rw [← hL1] at ho2 HL1 HST
            have HLL := Lib.hid hL1
            have hl1a : L1.length ≤ L.length := by rw [HL1.out]; omega
            have hl1b : L.length ≤ L1.length := by rw [HL1.out]; omega
            have hR0 : ∀ t, t < L1.length → gt L1 t = revAt L1 (i + 1) (L.length - 1 - i) 0 t := fun t ht => by unfold revAt; rw [if_neg (by omega)]
            clear hWv hL1 c1 c2 f1 f2
            go_wp2
            go_loopw [5, 6] (fun p r wt => ∃ (q a b : Nat) (L2 : List Int), a = i + 1 + q ∧ b + q + 1 = L.length ∧ 2 * q ≤ L.length - 1 - i ∧ p = .int .i64 (a : Int) ∧ r = .int .i64 (b : Int) ∧ L2.length = L1.length ∧ (∀ t, t < L1.length → gt L2 t = revAt L1 (i + 1) (L.length - 1 - i) q t) ∧ OwnI e B wt (.slice (some ⟨g, 0, none⟩) L.length c) L2 ∧ w.grownBy wt (some g)) (fun p r _ => (intOf r + 1 - intOf p).toNat)
            case atStart => exact ⟨0, i + 1, L.length - 1, L1, by omega, by omega, by omega, by go_num, by congr 1; omega, rfl, hR0, ho2, hg2⟩
            case round =>
              clear ho2 hg2 hR0
              obtain ⟨q, a, b, L2, ha, hb, hq, rfl, rfl, hL2, hM, ho, hg⟩ := hrel
              have HL2 := Lib.hid hL2
              have HM2 := Lib.hid hM
              have HAQ := Lib.hid ha
              have HBQ := Lib.hid hb
              have hl2a : L2.length ≤ L.length := by omega
              have hl2b : L.length ≤ L2.length := by omega
              by_cases hlt : a < b
              · have hab : a ≠ b := by omega
                have hba : b ≠ a := by omega
                have haL : a < L2.length := by omega
                have hbL : b < L2.length := by omega
                obtain ⟨g', he, _, _, hcl, hfr⟩ := ho.head (by omega)
                injection he with he
                injection he with he
                subst he
                have c1 := hcl a haL
                have c2 := hcl b hbL
                have f1 := hfr a
                have f2 := hfr b
                obtain ⟨x2, hx2⟩ : ∃ x2, x2 = gt L2 a := ⟨_, rfl⟩
                obtain ⟨y2, hy2⟩ : ∃ y2, y2 = gt L2 b := ⟨_, rfl⟩
                rw [← hx2] at c1
                rw [← hy2] at c2
                have h1a : (0 : Int) ≤ (a : Int) := by omega
                have h1b : (a : Int) < (L.length : Int) := by omega
                have h1c : (0 : Int) ≤ (b : Int) := by omega
                have h1d : (b : Int) < (L.length : Int) := by omega
                have hs1 := ho.stored a y2
                have hs2 := hs1.1.stored b x2
                have HO2 := Lib.hid hs2.1
                have HG2 := Lib.hid (grown_drew (grown_trans hg (grown_trans hs1.2 hs2.2)))
                have HR := Lib.hid (show ∀ t, t < L1.length → gt ((L2.set a y2).set b x2) t = revAt L1 (i + 1) (L.length - 1 - i) (q + 1) t from fun t ht => by
                  have h3 := HST.out L2 (i + 1) q (L.length - 1 - i - q - 1) t (by omega) (by omega) HL2.out (by rw [show q + 1 + (L.length - 1 - i - q - 1) = L.length - 1 - i by omega]; exact HM2.out) ht
                  rw [show q + 1 + (L.length - 1 - i - q - 1) = L.length - 1 - i by omega, show i + 1 + q = a by omega, show i + 1 + (L.length - 1 - i - q - 1) = b by omega, ← hx2, ← hy2] at h3
                  exact h3)
                clear hcl hfr hL2 hM ha hb hx2 hy2 hs1 hs2 ho hg
                go_wp2
                go_region
                go_wp2
                go_roundw
                case rel => exact ⟨q + 1, a + 1, b - 1, _, by have := HAQ.out; omega, by have := HBQ.out; omega, by have := HAQ.out; have := HBQ.out; omega, by go_num, by congr 1; omega, by rw [List.length_set, List.length_set]; exact HL2.out, HR.out, HO2.out, HG2.out⟩
                case measure => simp [intOf]; omega
              · have HFIN := Lib.hid (show nxt L = some L2 from HNE.out L2 i k hik hkl (fun j h1 h2 => HD.out j (by omega) h2) HLO.out (by rw [← HX.out, ← HY.out]; exact hlt') (by rw [HL2.out, HL1.out]) (fun t ht => by
                  rw [← HX.out, ← HY.out, ← HLL.out, HM2.out t (by omega)]
                  unfold revAt
                  by_cases e3 : i + 1 ≤ t ∧ t < i + 1 + (L.length - 1 - i) ∧ (t < i + 1 + q ∨ i + 1 + (L.length - 1 - i) ≤ t + q)
                  · rw [if_pos e3, if_pos (by omega)]
                  · rw [if_neg e3]
                    by_cases e4 : i + 1 ≤ t ∧ t < i + 1 + (L.length - 1 - i) ∧ (t < i + 1 + (L.length - 1 - i) ∨ i + 1 + (L.length - 1 - i) ≤ t + (L.length - 1 - i))
                    · rw [if_pos e4]
                      congr 1
                      omega
                    · rw [if_neg e4]))
                clear hL2 hM ha hb
                go_wp2
                go_ret
                rw [HFIN.out]
                exact ⟨rfl, ho, hg⟩
    · have hz0' : ¬ 0 ≤ z := hz0
      have hzd : decide (0 ≤ z) = false := decide_eq_false hz0
      have hzn : z < 0 := by omega
      have HF := Lib.hid (show nxt L = none from HDA.out fun j hj => HD.out j (by omega) hj)
      go_wp2_with fail
      go_quiet (fail)
      go_wp2
      go_ret
      rw [HF.out]
      exact ⟨rfl, ho, grown_drewN hg _⟩
end Go.Proofs.Ytkbceojeahninaa
