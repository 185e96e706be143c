/- The pitches that sound at a time: the reference. -/
import Derived.Test.YthgeijgojdmidaaSnds
import Derived.Test.YthgeijgojdmidaaApp
namespace Go.Proofs.Ythgeijgojdmidaa
open Go.ChangeShapes Go.WideShapes Go.ChangeAt Go.RowKit
set_option linter.unusedVariables false
attribute [local irreducible] tm pt sndZ pitZ tuneB selZ souF in
set_option maxHeartbeats 1600000 in
theorem spec_Snds_ok (A : Option Addr) (c : Nat) (l : List (Int × Int)) (T L : Int) (w : World) (hrd : RdN w A l) (hl : l.length ≤ 1000000000) (hok : souOk l T L) :
    Calls Try.prog 86 #[.slice A l.length c, .int .i64 T, .int .i64 L] w (RetI 3 w.heap.size (selZ (fun p => souF l L T (p : Int) l.length) 61) w) := by
  have hrd1 := rdn_alloc2 hrd (Obj.cells #[] 3)
  have hb0 := (Below.refl w.heap.size w).alloc (Nat.le_refl _) (Obj.cells #[] 3)
  have ho0 := OwnI.lit0 w 3
  have HK := Lib.hid (And.intro hok.1 hok.2.2)
  have HT := Lib.hid (fun k (hk : k < l.length) => tm_rng hok.1 hk)
  have hT := hok.2.1
  obtain ⟨hL1, hL2⟩ := hok.2.2
  clear hok
  go_enter Try.func86, Try.ntmps86
  go_wp2_with fail
  refine (l22_yes _ _ _ _ _ hrd1 (by omega) HK.out).mono ?_
  rintro e w1 ⟨rfl, hb1⟩
  have hr1 := hrd1.below hb1 rfl
  have ho1 := ho0.below hb1 rfl
  have hb2 := hb0.trans (hb1.mono (by simp))
  clear hb0 hb1 hrd1 hr1 ho0
  go_wp2_with fail
  refine (in_yes _ _ _ _ hT).mono ?_
  rintro e wz ⟨rfl, rfl⟩
  obtain ⟨hT1, hT2⟩ := hT
  go_wp2
  go_loopw [7, 8] (fun v i wr => ∃ p : Nat, p ≤ 61 ∧ i = .int .i64 p ∧ OwnI 3 w.heap.size wr v (selZ (fun p => souF l L T (p : Int) l.length) p) ∧ Below w.heap.size w wr ) (fun _ i _ => 61 - (intOf i).toNat)
  case atStart => exact ⟨0, by omega, rfl, by rw [show selZ (fun p => souF l L T (p : Int) l.length) 0 = [] by unfold selZ; rfl]; exact ho1, hb2⟩
  case round =>
    obtain ⟨p, hp, rfl, hown, hb⟩ := hrel
    clear ho1 hb2
    by_cases hlt : p < 61
    · have hlt2 : (p : Int) ≤ 60 := by omega
      have hlen := selZ_len (fun p => souF l L T (p : Int) l.length) p
      go_wp2
      go_loop [9, 10] (fun f i => ∃ k : Nat, k ≤ l.length ∧ i = .int .i64 k ∧ f = .bool (souF l L T (p : Int) k)) (fun _ i => l.length - (intOf i).toNat)
      case atStart => exact ⟨0, by omega, rfl, by unfold souF; rfl⟩
      case round =>
        obtain ⟨k, hk, rfl, rfl⟩ := hrel
        by_cases hlk : k < l.length
        · obtain ⟨b, o, rfl, lb, hcl⟩ := hrd (by omega)
          have k1 := (hb.cell (p := ⟨b, o + k * 2, none⟩) lb).trans (hcl k hlk).1
          have k2 := (hb.cell (p := ⟨b, o + k * 2 + 1, none⟩) lb).trans (hcl k hlk).2
          have hX := HT.out k hlk
          clear hcl
          cases hH : souF l L T (p : Int) k
          · by_cases h1 : pt l k = (p : Int)
            · have q1 : (pt l k == (p : Int)) = true := by simpa using h1
              by_cases h2 : tm l k ≤ T
              · by_cases h3 : T < tm l k + L
                · have HN := Lib.hid (souF_yes (l := l) (L := L) (T := T) h1 ⟨by omega, h2⟩)
                  clear h1 hH
                  go_wp2
                  go_round
                  case rel => exact ⟨k + 1, by omega, by go_num, by rw [HN.out]⟩
                  case measure => simp [intOf]; omega
                · have HN := Lib.hid (souF_no hH (fun h => h3 (by have := h.2.1; omega)))
                  clear h1 hH
                  go_wp2
                  go_round
                  case rel => exact ⟨k + 1, by omega, by go_num, by rw [HN.out]⟩
                  case measure => simp [intOf]; omega
              · have HN := Lib.hid (souF_no hH (fun h => h2 h.2.2))
                clear h1 hH
                go_wp2
                go_round
                case rel => exact ⟨k + 1, by omega, by go_num, by rw [HN.out]⟩
                case measure => simp [intOf]; omega
            · have HN := Lib.hid (souF_no hH (fun h => h1 h.1))
              have q1 : (pt l k == (p : Int)) = false := by simpa using h1
              clear h1 hH
              go_wp2
              go_round
              case rel => exact ⟨k + 1, by omega, by go_num, by rw [HN.out]⟩
              case measure => simp [intOf]; omega
          · have HN := Lib.hid (souF_keep hH)
            clear hH
            go_wp2
            go_round
            case rel => exact ⟨k + 1, by omega, by go_num, by rw [HN.out]⟩
            case measure => simp [intOf]; omega
        · obtain rfl : k = l.length := by omega
          cases hH : souF l L T (p : Int) l.length
          · have HY := Lib.hid (sel_no (f := fun p => souF l L T (p : Int) l.length) hH)
            clear hH
            go_wp2
            go_roundw
            case rel => exact ⟨p + 1, by omega, by go_num, by rw [HY.out]; exact hown, hb⟩
            case measure => simp [intOf]; omega
          · have HY := Lib.hid (sel_yes (f := fun p => souF l L T (p : Int) l.length) hH)
            have hBs := hb.size
            clear hH
            go_wp2_with (at_builtin; refine app_int rfl _ _ 25 rfl 3 Try.underlying25 (by kernel_rfl) w.heap.size _ (selZ (fun p => souF l L T (p : Int) l.length) p) (p : Int) hown rfl rfl (by omega) hBs ?_; intro v' w2 hown1 hb3)
            go_roundw
            case rel => exact ⟨p + 1, by omega, by go_num, by rw [HY.out]; exact hown1, hb.trans hb3⟩
            case measure => simp [intOf]; omega
    · obtain rfl : p = 61 := by omega
      go_wp2
      go_ret
      exact RetI.mk hown hb
theorem spec_SoundsAt (A : Option Addr) (c : Nat) (l : List (Int × Int)) (T L : Int) (w : World) (hrd : RdN w A l) (hl : l.length ≤ 1000000000) :
    Calls Try.prog 86 #[.slice A l.length c, .int .i64 T, .int .i64 L] w (RetI 3 w.heap.size (souB l T L) w) := by
  by_cases hok : souOk l T L
  · rw [souB_yes hok]; exact spec_Snds_ok A c l T L w hrd hl hok
  · have HV := Lib.hid (souB_no hok)
    have hrd1 := rdn_alloc2 hrd (Obj.cells #[] 3)
    have hb0 := (Below.refl w.heap.size w).alloc (Nat.le_refl _) (Obj.cells #[] 3)
    have ho0 := OwnI.lit0 w 3
    by_cases h22 : tuneB l = true ∧ 1 ≤ L ∧ L ≤ 100
    · have HK := Lib.hid h22
      have hT : ¬ (0 ≤ T ∧ T ≤ 2000) := fun h => hok ⟨h22.1, h, h22.2⟩
      clear hok h22
      go_enter Try.func86, Try.ntmps86
      go_wp2_with fail
      refine (l22_yes _ _ _ _ _ hrd1 (by omega) HK.out).mono ?_
      rintro e w1 ⟨rfl, hb1⟩
      have ho1 := ho0.below hb1 rfl
      have hb2 := hb0.trans (hb1.mono (by simp))
      go_wp2_with fail
      refine (in_no _ _ _ _ hT).mono ?_
      rintro e wz ⟨rfl, rfl⟩
      go_wp2
      go_ret
      rw [HV.out]
      exact RetI.mk ho1 hb2
    · have HK := Lib.hid h22
      clear hok h22
      go_enter Try.func86, Try.ntmps86
      go_wp2_with fail
      refine (l22_no _ _ _ _ _ hrd1 (by omega) HK.out).mono ?_
      rintro e w1 ⟨rfl, hb1⟩
      have ho1 := ho0.below hb1 rfl
      have hb2 := hb0.trans (hb1.mono (by simp))
      go_wp2
      go_ret
      rw [HV.out]
      exact RetI.mk ho1 hb2
end Go.Proofs.Ythgeijgojdmidaa
