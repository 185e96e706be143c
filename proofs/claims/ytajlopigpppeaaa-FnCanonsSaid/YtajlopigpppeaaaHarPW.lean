/- The harsh pairs of a tune: the program and the reference. -/
import Derived.Test.YtajlopigpppeaaaHarP
import Derived.Deep.Cut
namespace Go.Proofs.Ytajlopigpppeaaa
open Go.ChangeShapes Go.WideShapes Go.ChangeAt Go.RowKit
set_option linter.unusedVariables false
attribute [local irreducible] tm pt tuneB hpJ hpN swt in
set_option maxHeartbeats 1600000 in
theorem impl_HarP (A : Option Addr) (c : Nat) (l : List (Int × Int)) (w : World) (hrd : RdN w A l) (hl : l.length ≤ 1000000000) (hc : l.length ≤ c) (hcm : c ≤ maxLen) :
    Calls Try.prog 66 #[.slice A l.length c] w fun e w' => e = .returned (.int .i64 (hpZ l)) ∧ Below w.heap.size w w' := by
  unfold maxLen at hcm
  cases hB : tuneB l
  · have HV := Lib.hid (hpZ_no hB)
    have HB := Lib.hid hB
    clear hB
    go_enter Try.func66, Try.ntmps66
    go_wp2_with fail
    refine (impl_TuneOk _ _ _ _ hrd (by omega)).mono ?_
    rintro e w1 ⟨rfl, hb1⟩
    rw [HB.out]
    go_wp2
    go_ret
    exact ⟨ret_int HV.out.symm, hb1⟩
  · have HV := Lib.hid (hpZ_yes hB)
    have HB := Lib.hid hB
    have hl40 := tune_len6 hB
    have HP := Lib.hid (fun (k : Nat) (hk : k < l.length) => pt_rng hB hk)
    have HN := Lib.hid (hpN_bd l)
    have HJ := Lib.hid (hpJ_bd l)
    have HZ0 := Lib.hid (show hpN l 0 = 0 by unfold hpN; rfl)
    clear hB
    go_enter Try.func66, Try.ntmps66
    go_wp2_with fail
    refine (impl_TuneOk _ _ _ _ hrd (by omega)).mono ?_
    rintro e w1 ⟨rfl, hb1⟩
    rw [HB.out]
    go_wp2
    go_loopw [3, 13] (fun v i wr => ∃ k : Nat, k ≤ l.length ∧ v = .int .i64 (hpN l k) ∧ i = .int .i64 k ∧ Below w.heap.size w wr) (fun _ i _ => l.length - (intOf i).toNat)
    case atStart => exact ⟨0, by omega, by rw [HZ0.out], rfl, hb1⟩
    case round =>
      obtain ⟨k, hk, rfl, rfl, hb⟩ := hrel
      obtain ⟨wo, hwo⟩ : ∃ wo, wo = wr := ⟨wr, rfl⟩
      subst hwo
      by_cases hlt : k < l.length
      · obtain ⟨b, o, rfl, lb, hcl⟩ := hrd (by omega)
        have k1 := (hb.cell (p := ⟨b, o + k * 2, none⟩) lb).trans (hcl k hlt).1
        have k2 := (hb.cell (p := ⟨b, o + k * 2 + 1, none⟩) lb).trans (hcl k hlt).2
        have hBs : w.heap.size ≤ wo.heap.size := hb.size
        have hn := HN.out k (by omega)
        have hpk := HP.out k hlt
        have hkc : (k : Int) ≤ (c : Int) := by omega
        have hk0 : (0 : Int) ≤ (k : Int) := by omega
        have HK := Lib.hid (show hpN l (k + 1) = hpJ l k (hpN l k) k by rw [hpN])
        have HK0 := Lib.hid (show hpJ l k (hpN l k) 0 = hpN l k by rw [hpJ])
        obtain ⟨n0, hn0⟩ : ∃ n0, n0 = hpN l k := ⟨_, rfl⟩
        rw [← hn0] at HK HK0 hn ⊢
        clear hn0
        obtain ⟨W, hW⟩ : ∃ W, W = wo.alloc (Obj.cells #[.int .i64 (tm l k), .int .i64 (pt l k)] 42) := ⟨_, rfl⟩
        have hBW : Below wo.heap.size wo W := by rw [hW]; exact (Below.refl _ _).alloc (Nat.le_refl _) _
        have n1 : W.cell? ⟨wo.heap.size, 0, none⟩ = some (.int .i64 (tm l k)) := by rw [hW]; simp [go_sem]
        have n2 : W.cell? ⟨wo.heap.size, 1, none⟩ = some (.int .i64 (pt l k)) := by rw [hW]; simp [go_sem]
        have nb : wo.heap.size < W.heap.size := by rw [hW]; simp
        have HW := Lib.hid hW
        have hbW := hb.trans (hBW.mono hBs)
        have hcj := hcl
        clear hW hBW hcl
        go_wp2
        go_loopw [3, 22] (fun v i wt => ∃ j : Nat, j ≤ k ∧ v = .int .i64 (hpJ l k n0 j) ∧ i = .int .i64 j ∧ Below W.heap.size W wt) (fun _ i _ => k - (intOf i).toNat)
        case atStart => exact ⟨0, by omega, by rw [HK0.out], rfl, by rw [HW.out]; exact Below.refl _ _⟩
        case round =>
          obtain ⟨j, hj, rfl, rfl, hbj⟩ := hrel
          by_cases hlj : j < k
          · have hbT := hbW.trans (hbj.mono hbW.size)
            have p1 := (hbT.cell (p := ⟨b, o + j * 2, none⟩) lb).trans (hcj j (by omega)).1
            have p2 := (hbT.cell (p := ⟨b, o + j * 2 + 1, none⟩) lb).trans (hcj j (by omega)).2
            have m1 := (hbj.cell (p := ⟨wo.heap.size, 0, none⟩) nb).trans n1
            have m2 := (hbj.cell (p := ⟨wo.heap.size, 1, none⟩) nb).trans n2
            have mb : wo.heap.size < wr.heap.size := Nat.lt_of_lt_of_le nb hbj.size
            have hpj := HP.out j (by omega)
            have hjb := HJ.out k n0 j
            have hTs := hbT.size
            obtain ⟨V, hV⟩ : ∃ V, V = wr.alloc (Obj.cells #[.int .i64 (tm l j), .int .i64 (pt l j)] 42) := ⟨_, rfl⟩
            have hBV : Below wr.heap.size wr V := by rw [hV]; exact (Below.refl _ _).alloc (Nat.le_refl _) _
            have v1 : V.cell? ⟨wr.heap.size, 0, none⟩ = some (.int .i64 (tm l j)) := by rw [hV]; simp [go_sem]
            have v2 : V.cell? ⟨wr.heap.size, 1, none⟩ = some (.int .i64 (pt l j)) := by rw [hV]; simp [go_sem]
            have u1 := (hBV.cell (p := ⟨wo.heap.size, 0, none⟩) mb).trans m1
            have u2 := (hBV.cell (p := ⟨wo.heap.size, 1, none⟩) mb).trans m2
            have HVV := Lib.hid hV
            have HBV := Lib.hid (hbj.trans (hBV.mono hbj.size))
            clear hV hBV k1 k2 m1 m2
            by_cases ht : tm l k = tm l j
            · cases hs : swt (pt l k) (pt l j)
              · have HY := Lib.hid (hpJ_yes (l := l) (i := k) (j := j) (n := n0) ⟨ht, hs⟩)
                have HS := Lib.hid hs
                have hq : (tm l k == tm l j) = true := by simpa using ht
                clear ht hs
                go_upto_region 10 with (fail)
                rw [← HVV.out]
                go_wp2_with (go_at_call 90; refine (impl_Sweet _ _ _ hpk hpj).mono ?_; rintro e wz ⟨rfl, rfl⟩; rw [HS.out])
                go_roundw
                case rel => exact ⟨j + 1, by omega, by rw [HY.out], by go_num, HBV.out⟩
                case measure => simp [intOf]; omega
              · have HY := Lib.hid (hpJ_no (l := l) (i := k) (j := j) (n := n0) (fun h => by have := h.2; rw [hs] at this; cases this))
                have HS := Lib.hid hs
                have hq : (tm l k == tm l j) = true := by simpa using ht
                clear ht hs
                go_upto_region 10 with (fail)
                rw [← HVV.out]
                go_wp2_with (go_at_call 90; refine (impl_Sweet _ _ _ hpk hpj).mono ?_; rintro e wz ⟨rfl, rfl⟩; rw [HS.out])
                go_roundw
                case rel => exact ⟨j + 1, by omega, by rw [HY.out], by go_num, HBV.out⟩
                case measure => simp [intOf]; omega
            · have HY := Lib.hid (hpJ_no (l := l) (i := k) (j := j) (n := n0) (fun h => ht h.1))
              have hq : (tm l k == tm l j) = false := by simpa using ht
              clear ht
              go_upto_region 10 with (fail)
              rw [← HVV.out]
              go_wp2
              go_roundw
              case rel => exact ⟨j + 1, by omega, by rw [HY.out], by go_num, HBV.out⟩
              case measure => simp [intOf]; omega
          · obtain rfl : j = k := by omega
            have hbT := hbW.trans (hbj.mono hbW.size)
            go_wp2
            go_roundw
            case rel => exact ⟨j + 1, by omega, by rw [HK.out], by go_num, hbT⟩
            case measure => simp [intOf]; omega
      · obtain rfl : k = l.length := by omega
        go_wp2
        go_ret
        exact ⟨ret_int HV.out.symm, hb⟩
attribute [local irreducible] tm pt tuneB hpJ hpN swt in
set_option maxHeartbeats 1600000 in
theorem spec_HarP (A : Option Addr) (c : Nat) (l : List (Int × Int)) (w : World) (hrd : RdN w A l) (hl : l.length ≤ 1000000000) (hc : l.length ≤ c) (hcm : c ≤ maxLen) :
    Calls Try.prog 72 #[.slice A l.length c] w fun e w' => e = .returned (.int .i64 (hpZ l)) ∧ Below w.heap.size w w' := by
  cases hB : tuneB l
  · have HV := Lib.hid (hpZ_no hB)
    have HB := Lib.hid hB
    clear hB
    go_enter Try.func72, Try.ntmps72
    go_wp2_with fail
    refine (spec_TuneOk _ _ _ _ hrd (by omega)).mono ?_
    rintro e w1 ⟨rfl, hb1⟩
    rw [HB.out]
    go_wp2
    go_ret
    exact ⟨ret_int HV.out.symm, hb1⟩
  · have HV := Lib.hid (hpZ_yes hB)
    have HB := Lib.hid hB
    have hl40 := tune_len6 hB
    have HP := Lib.hid (fun (k : Nat) (hk : k < l.length) => pt_rng hB hk)
    have HN := Lib.hid (hpN_bd l)
    have HJ := Lib.hid (hpJ_bd l)
    have HZ0 := Lib.hid (show hpN l 0 = 0 by unfold hpN; rfl)
    clear hB
    go_enter Try.func72, Try.ntmps72
    go_wp2_with fail
    refine (spec_TuneOk _ _ _ _ hrd (by omega)).mono ?_
    rintro e w1 ⟨rfl, hb1⟩
    rw [HB.out]
    go_wp2
    go_loopw [3, 4] (fun v i wr => ∃ k : Nat, k ≤ l.length ∧ v = .int .i64 (hpN l k) ∧ i = .int .i64 k ∧ Below w.heap.size w wr) (fun _ i _ => l.length - (intOf i).toNat)
    case atStart => exact ⟨0, by omega, by rw [HZ0.out], rfl, hb1⟩
    case round =>
      obtain ⟨k, hk, rfl, rfl, hb⟩ := hrel
      by_cases hlt : k < l.length
      · have hn := HN.out k (by omega)
        have hpk := HP.out k hlt
        have HK := Lib.hid (show hpN l (k + 1) = hpJ l k (hpN l k) k by rw [hpN])
        have HK0 := Lib.hid (show hpJ l k (hpN l k) 0 = hpN l k by rw [hpJ])
        obtain ⟨n0, hn0⟩ : ∃ n0, n0 = hpN l k := ⟨_, rfl⟩
        rw [← hn0] at HK HK0 hn ⊢
        clear hn0
        obtain ⟨wo, hwo⟩ : ∃ wo, wo = wr := ⟨wr, rfl⟩
        subst hwo
        go_wp2
        go_loopw [3, 5] (fun v i wt => ∃ j : Nat, j ≤ k ∧ v = .int .i64 (hpJ l k n0 j) ∧ i = .int .i64 j ∧ Below wo.heap.size wo wt) (fun _ i _ => k - (intOf i).toNat)
        case atStart => exact ⟨0, by omega, by rw [HK0.out], rfl, Below.refl _ _⟩
        case round =>
          obtain ⟨j, hj, rfl, rfl, hbj⟩ := hrel
          by_cases hlj : j < k
          · obtain ⟨b, o, rfl, lb, hcl⟩ := hrd (by omega)
            have hbT := hb.trans (hbj.mono hb.size)
            have k1 := (hbT.cell (p := ⟨b, o + k * 2, none⟩) lb).trans (hcl k hlt).1
            have k2 := (hbT.cell (p := ⟨b, o + k * 2 + 1, none⟩) lb).trans (hcl k hlt).2
            have p1 := (hbT.cell (p := ⟨b, o + j * 2, none⟩) lb).trans (hcl j (by omega)).1
            have p2 := (hbT.cell (p := ⟨b, o + j * 2 + 1, none⟩) lb).trans (hcl j (by omega)).2
            have hpj := HP.out j (by omega)
            have hjb := HJ.out k n0 j
            have h0a : (0 : Int) ≤ (k : Int) := by omega
            have h0b : (k : Int) < (l.length : Int) := by omega
            have h0c : (0 : Int) ≤ (j : Int) := by omega
            have h0d : (j : Int) < (l.length : Int) := by omega
            clear hcl
            by_cases ht : tm l k = tm l j
            · cases hs : swt (pt l k) (pt l j)
              · have HY := Lib.hid (hpJ_yes (l := l) (i := k) (j := j) (n := n0) ⟨ht, hs⟩)
                have HS := Lib.hid hs
                have hq : (tm l k == tm l j) = true := by simpa using ht
                clear ht hs
                go_wp2_with fail
                go_quiet ((go_at_call 93; exact quiet_u (spec_Sweet _ _ _ hpk hpj)))
                rw [HS.out]
                go_wp2
                go_roundw
                case rel => exact ⟨j + 1, by omega, by rw [HY.out], by go_num, bel_drewN hbj _⟩
                case measure => simp [intOf]; omega
              · have HY := Lib.hid (hpJ_no (l := l) (i := k) (j := j) (n := n0) (fun h => by have := h.2; rw [hs] at this; cases this))
                have HS := Lib.hid hs
                have hq : (tm l k == tm l j) = true := by simpa using ht
                clear ht hs
                go_wp2_with fail
                go_quiet ((go_at_call 93; exact quiet_u (spec_Sweet _ _ _ hpk hpj)))
                rw [HS.out]
                go_wp2
                go_roundw
                case rel => exact ⟨j + 1, by omega, by rw [HY.out], by go_num, bel_drewN hbj _⟩
                case measure => simp [intOf]; omega
            · have HY := Lib.hid (hpJ_no (l := l) (i := k) (j := j) (n := n0) (fun h => ht h.1))
              have hq : (tm l k == tm l j) = false := by simpa using ht
              clear ht
              go_wp2_with fail
              go_quiet (fail)
              go_wp2
              go_roundw
              case rel => exact ⟨j + 1, by omega, by rw [HY.out], by go_num, bel_drewN hbj _⟩
              case measure => simp [intOf]; omega
          · obtain rfl : j = k := by omega
            have hbT := hb.trans (hbj.mono hb.size)
            go_wp2
            go_roundw
            case rel => exact ⟨j + 1, by omega, by rw [HK.out], by go_num, hbT⟩
            case measure => simp [intOf]; omega
      · obtain rfl : k = l.length := by omega
        go_wp2
        go_ret
        exact ⟨ret_int HV.out.symm, hb⟩
end Go.Proofs.Ytajlopigpppeaaa
