/- The pitches that need a damper: the reference; and both functions for all arguments. -/
import Derived.Test.YtjfaodbjmanfnaaDamp
namespace Go.Proofs.Ytjfaodbjmanfnaa
open Go.ChangeShapes Go.WideShapes Go.ChangeAt Go.RowKit
set_option linter.unusedVariables false
theorem damI_keep {l : List (Int × Int)} {L p : Int} {k i : Nat} {f : Bool} (h : damI l L p k f i = true) : damI l L p k f (i + 1) = true := by show (_ || _) = _; rw [h]; rfl
theorem damI_yes {l : List (Int × Int)} {L p : Int} {k i : Nat} {f : Bool} (h : damQ l L p k i) : damI l L p k f (i + 1) = true := by show (_ || _) = _; rw [decide_eq_true h]; simp
theorem damI_no {l : List (Int × Int)} {L p : Int} {k i : Nat} {f : Bool} (h0 : damI l L p k f i = false) (h : ¬ damQ l L p k i) : damI l L p k f (i + 1) = false := by show (_ || _) = _; rw [h0, decide_eq_false h]; rfl
attribute [local irreducible] tm pt latI latZ lateQ pitZ tuneB selZ damF damI in
set_option maxHeartbeats 1600000 in
theorem spec_Damp_ok (A : Option Addr) (c : Nat) (l : List (Int × Int)) (L : Int) (w : World) (hrd : RdN w A l) (hl : l.length ≤ 1000000000) (hok : damOk l L) :
    Calls Try.prog 43 #[.slice A l.length c, .int .i64 L] w (RetI 3 w.heap.size (selZ (fun p => damF l L (p : Int) l.length) 61) w) := by
  have hrd1 := rdn_alloc2 hrd (Obj.cells #[] 3)
  have hb0 := (Below.refl w.heap.size w).alloc (Nat.le_refl _) (Obj.cells #[] 3)
  have ho0 := OwnI.lit0 w 3
  have HK := Lib.hid hok
  have HT := Lib.hid (fun k (hk : k < l.length) => tm_rng hok.1 hk)
  obtain ⟨hL1, hL2⟩ := hok.2
  clear hok
  go_enter Try.func43, Try.ntmps43
  go_wp2_with fail
  refine (l22_yes _ _ _ _ _ hrd1 (by omega) HK.out).mono ?_
  rintro e w1 ⟨rfl, hb1⟩
  have ho1 := ho0.below hb1 rfl
  have hb2 := hb0.trans (hb1.mono (by simp))
  clear hb0 hb1 hrd1 ho0
  go_wp2
  go_loopw [5, 6] (fun v i wr => ∃ p : Nat, p ≤ 61 ∧ i = .int .i64 p ∧ OwnI 3 w.heap.size wr v (selZ (fun p => damF l L (p : Int) l.length) p) ∧ Below w.heap.size w wr) (fun _ i _ => 61 - (intOf i).toNat)
  case atStart => exact ⟨0, by omega, rfl, by rw [show selZ (fun p => damF l L (p : Int) l.length) 0 = [] by unfold selZ; rfl]; exact ho1, hb2⟩
  case round =>
    obtain ⟨p, hp, rfl, hown, hb⟩ := hrel
    clear ho1 hb2
    obtain ⟨wo, hwo⟩ : ∃ wo, wo = wr := ⟨wr, rfl⟩
    subst hwo
    by_cases hlt : p < 61
    · have hlt2 : (p : Int) ≤ 60 := by omega
      have hlen := selZ_len (fun p => damF l L (p : Int) l.length) p
      go_wp2
      go_loopw [7, 8] (fun f i wt => ∃ k : Nat, k ≤ l.length ∧ i = .int .i64 k ∧ f = .bool (damF l L (p : Int) k) ∧ Below wo.heap.size wo wt) (fun _ i _ => l.length - (intOf i).toNat)
      case atStart => exact ⟨0, by omega, rfl, by unfold damF; rfl, Below.refl _ _⟩
      case round =>
        obtain ⟨k, hk, rfl, rfl, hbk⟩ := hrel
        by_cases hlk : k < l.length
        · have HD := Lib.hid (show damF l L (p : Int) (k + 1) = damI l L (p : Int) k (damF l L (p : Int) k) k by rw [damF])
          have HD0 := Lib.hid (show damI l L (p : Int) k (damF l L (p : Int) k) 0 = damF l L (p : Int) k by rw [damI])
          obtain ⟨f0, hf0⟩ : ∃ f0, f0 = damF l L (p : Int) k := ⟨_, rfl⟩
          rw [← hf0] at HD HD0 ⊢
          clear hf0
          go_wp2
          go_loopw [7, 9] (fun f q wt => ∃ i : Nat, i ≤ k ∧ q = .int .i64 i ∧ f = .bool (damI l L (p : Int) k f0 i) ∧ Below wo.heap.size wo wt) (fun _ q _ => k - (intOf q).toNat)
          case atStart => exact ⟨0, by omega, rfl, by rw [HD0.out], hbk⟩
          case round =>
            obtain ⟨i, hi, rfl, rfl, hbt⟩ := hrel
            by_cases hli : i < k
            · obtain ⟨b, o, rfl, lb, hcl⟩ := hrd (by omega)
              have hbw := hb.trans (hbt.mono hb.size)
              have k1 := (hbw.cell (p := ⟨b, o + k * 2, none⟩) lb).trans (hcl k hlk).1
              have k2 := (hbw.cell (p := ⟨b, o + k * 2 + 1, none⟩) lb).trans (hcl k hlk).2
              have k3 := (hbw.cell (p := ⟨b, o + i * 2, none⟩) lb).trans (hcl i (by omega)).1
              have k4 := (hbw.cell (p := ⟨b, o + i * 2 + 1, none⟩) lb).trans (hcl i (by omega)).2
              have g1 := HT.out k hlk
              have g2 := HT.out i (by omega)
              have h0a : (0 : Int) ≤ (k : Int) := by omega
              have h0b : (k : Int) < (l.length : Int) := by omega
              have h0c : (0 : Int) ≤ (i : Int) := by omega
              have h0d : (i : Int) < (l.length : Int) := by omega
              have W1 := Lib.hid (show IntKind.i64.wrap (tm l i + L) = tm l i + L from IntWalk.i64_in _ (by omega))
              clear hcl g1 g2
              cases hH : damI l L (p : Int) k f0 i
              · by_cases h1 : pt l k = (p : Int)
                · have q1 : (pt l k == (p : Int)) = true := by simpa using h1
                  by_cases h2 : pt l i = (p : Int)
                  · have q2 : (pt l i == (p : Int)) = true := by simpa using h2
                    by_cases h3 : tm l k < tm l i + L
                    · have HN := Lib.hid (damI_yes (f := f0) (show damQ l L (p : Int) k i from ⟨h1, h2, h3⟩))
                      clear h1 h2 hH
                      go_wp2_with fail
                      have v1 := W1.out
                      go_quiet (fail)
                      clear v1
                      go_wp2
                      go_roundw
                      case rel => exact ⟨i + 1, by omega, by go_num, by rw [HN.out], bel_drewN hbt _⟩
                      case measure => simp [intOf]; omega
                    · have HN := Lib.hid (damI_no hH (fun h : damQ l L (p : Int) k i => h3 h.2.2))
                      clear h1 h2 hH
                      go_wp2_with fail
                      have v1 := W1.out
                      go_quiet (fail)
                      clear v1
                      go_wp2
                      go_roundw
                      case rel => exact ⟨i + 1, by omega, by go_num, by rw [HN.out, decide_eq_false (Int.not_lt.2 h3)], bel_drewN hbt _⟩
                      case measure => simp [intOf]; omega
                  · have q2 : (pt l i == (p : Int)) = false := by simpa using h2
                    have HN := Lib.hid (damI_no hH (fun h : damQ l L (p : Int) k i => h2 h.2.1))
                    clear h1 h2 hH
                    go_wp2_with fail
                    go_quiet (fail)
                    go_wp2
                    go_roundw
                    case rel => exact ⟨i + 1, by omega, by go_num, by rw [HN.out], bel_drewN hbt _⟩
                    case measure => simp [intOf]; omega
                · have q1 : (pt l k == (p : Int)) = false := by simpa using h1
                  have HN := Lib.hid (damI_no hH (fun h : damQ l L (p : Int) k i => h1 h.1))
                  clear h1 hH
                  go_wp2_with fail
                  go_quiet (fail)
                  go_wp2
                  go_roundw
                  case rel => exact ⟨i + 1, by omega, by go_num, by rw [HN.out], bel_drewN hbt _⟩
                  case measure => simp [intOf]; omega
              · have HN := Lib.hid (damI_keep hH)
                clear hH
                go_wp2_with fail
                go_quiet (fail)
                go_wp2
                go_roundw
                case rel => exact ⟨i + 1, by omega, by go_num, by rw [HN.out], bel_drewN hbt _⟩
                case measure => simp [intOf]; omega
            · obtain rfl : i = k := by omega
              go_wp2
              go_roundw
              case rel => exact ⟨i + 1, by omega, by go_num, by rw [HD.out], hbt⟩
              case measure => simp [intOf]; omega
        · obtain rfl : k = l.length := by omega
          have hbw := hb.trans (hbk.mono hb.size)
          have hBs := hbw.size
          have ho3 := hown.below hbk rfl
          cases hH : damF l L (p : Int) l.length
          · have HY := Lib.hid (sel_no (f := fun p => damF l L (p : Int) l.length) hH)
            clear hH
            go_wp2
            go_roundw
            case rel => exact ⟨p + 1, by omega, by go_num, by rw [HY.out]; exact ho3, hbw⟩
            case measure => simp [intOf]; omega
          · have HY := Lib.hid (sel_yes (f := fun p => damF l L (p : Int) l.length) hH)
            clear hH
            go_wp2_with (at_builtin; refine app_int rfl _ _ 31 rfl 3 Try.underlying31 (by kernel_rfl) w.heap.size _ (selZ (fun p => damF l L (p : Int) l.length) p) (p : Int) ho3 rfl rfl (by omega) hBs ?_; intro v' w2 hown1 hb3)
            go_roundw
            case rel => exact ⟨p + 1, by omega, by go_num, by rw [HY.out]; exact hown1, hbw.trans hb3⟩
            case measure => simp [intOf]; omega
    · obtain rfl : p = 61 := by omega
      go_wp2
      go_ret
      exact RetI.mk hown hb
theorem spec_Damp (A : Option Addr) (c : Nat) (l : List (Int × Int)) (L : Int) (w : World) (hrd : RdN w A l) (hl : l.length ≤ 1000000000) :
    Calls Try.prog 43 #[.slice A l.length c, .int .i64 L] w (RetI 3 w.heap.size (damB l L) w) := by
  by_cases hok : damOk l L
  · rw [damB_yes hok]; exact spec_Damp_ok A c l L w hrd hl hok
  · have HV := Lib.hid (damB_no hok)
    have HK := Lib.hid hok
    have hrd1 := rdn_alloc2 hrd (Obj.cells #[] 3)
    have hb0 := (Below.refl w.heap.size w).alloc (Nat.le_refl _) (Obj.cells #[] 3)
    have ho0 := OwnI.lit0 w 3
    clear hok
    go_enter Try.func43, Try.ntmps43
    go_wp2_with fail
    refine (l22_no _ _ _ _ _ hrd1 (by omega) HK.out).mono ?_
    rintro e w1 ⟨rfl, hb1⟩
    have ho1 := ho0.below hb1 rfl
    have hb2 := hb0.trans (hb1.mono (by simp))
    go_wp2
    go_ret
    rw [HV.out]
    exact RetI.mk ho1 hb2
theorem impl_Damp (A : Option Addr) (c : Nat) (l : List (Int × Int)) (L : Int) (w : World) (hrd : RdN w A l) (hc : l.length ≤ c) (hcm : c ≤ maxLen) (hl : l.length ≤ 1000000000) :
    Calls Try.prog 44 #[.slice A l.length c, .int .i64 L] w (RetI 3 w.heap.size (damB l L) w) := by
  by_cases hok : damOk l L
  · rw [damB_yes hok]; exact impl_Damp_ok A c l L w hrd hc hcm hok
  · have HV := Lib.hid (damB_no hok)
    cases hB : tuneB l
    · have HB := Lib.hid hB
      clear hB hok
      go_enter Try.func44, Try.ntmps44
      go_wp2_with fail
      refine (impl_TuneOk _ _ _ _ hrd (by omega)).mono ?_
      rintro e w1 ⟨rfl, hb1⟩
      rw [HB.out]
      go_wp2
      go_ret
      rw [HV.out]
      exact RetI.mk (OwnI.nil0 _ _ _) hb1
    · have HB := Lib.hid hB
      have hL : ¬ (1 ≤ L ∧ L ≤ 100) := fun h => hok ⟨hB, h⟩
      clear hB hok
      go_enter Try.func44, Try.ntmps44
      go_wp2_with fail
      refine (impl_TuneOk _ _ _ _ hrd (by omega)).mono ?_
      rintro e w1 ⟨rfl, hb1⟩
      rw [HB.out]
      go_wp2_with fail
      refine (wi_no _ _ _ _ hL).mono ?_
      rintro e wz ⟨rfl, rfl⟩
      go_wp2
      go_ret
      rw [HV.out]
      exact RetI.mk (OwnI.nil0 _ _ _) hb1
end Go.Proofs.Ytjfaodbjmanfnaa
