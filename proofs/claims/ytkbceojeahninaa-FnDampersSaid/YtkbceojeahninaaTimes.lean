/- The times of a tune, each once; their gaps; the longest silence. -/
import Derived.Test.YtkbceojeahninaaBase
import Derived.Test.YtkbceojeahninaaTune
import Derived.Test.YtkbceojeahninaaRows
import Derived.Deep.QuietTactic
import Derived.BigQuiet
import Derived.Outline
namespace Go.Proofs.Ytkbceojeahninaa
open Go.ChangeShapes Go.WideShapes Go.ChangeAt Go.RowKit
set_option linter.unusedVariables false
def onZ (l : List (Int × Int)) : Nat → List Int
  | 0 => []
  | k + 1 => if k = 0 ∨ tm l (k - 1) ≠ tm l k then onZ l k ++ [tm l k] else onZ l k
theorem onZ_len (l : List (Int × Int)) : ∀ k, (onZ l k).length ≤ k
  | 0 => by simp [onZ]
  | k + 1 => by have := onZ_len l k; unfold onZ; split <;> simp <;> omega
theorem gt_last (l : List Int) (x : Int) : gt (l ++ [x]) l.length = x := by simp [gt]
theorem onZ_last (l : List (Int × Int)) : ∀ k, ∃ n, (onZ l (k + 1)).length = n + 1 ∧ gt (onZ l (k + 1)) n = tm l k
  | 0 => ⟨0, by simp [onZ], by simp [onZ, gt]⟩
  | k + 1 => by
    obtain ⟨n, h1, h2⟩ := onZ_last l k
    unfold onZ
    by_cases h : k + 1 = 0 ∨ tm l (k + 1 - 1) ≠ tm l (k + 1)
    · rw [if_pos h]
      exact ⟨(onZ l (k + 1)).length, by simp, gt_last _ _⟩
    · rw [if_neg h]
      refine ⟨n, h1, h2.trans ?_⟩
      by_cases e : tm l k = tm l (k + 1)
      · exact e
      · exact absurd (Or.inr (by simpa using e)) h
theorem onZ_yes {l : List (Int × Int)} {k : Nat} (h : k = 0 ∨ tm l (k - 1) ≠ tm l k) : onZ l (k + 1) = onZ l k ++ [tm l k] := by
  show (if _ then _ else _) = _; rw [if_pos h]
theorem onZ_no {l : List (Int × Int)} {k : Nat} (h : ¬ (k = 0 ∨ tm l (k - 1) ≠ tm l k)) : onZ l (k + 1) = onZ l k := by
  show (if _ then _ else _) = _; rw [if_neg h]
noncomputable def onB (l : List (Int × Int)) : List Int := if tuneB l then onZ l l.length else []
theorem onB_yes {l : List (Int × Int)} (h : tuneB l = true) : onB l = onZ l l.length := by unfold onB; rw [h]; rfl
theorem onB_no {l : List (Int × Int)} (h : tuneB l = false) : onB l = [] := by unfold onB; rw [h]; rfl
theorem onB_len (l : List (Int × Int)) : (onB l).length ≤ l.length := by
  unfold onB; split
  · exact onZ_len l _
  · simp
attribute [local irreducible] tm pt lessB onZ tuneB in
set_option maxHeartbeats 800000 in
theorem spec_OnTimes (A : Option Addr) (c : Nat) (l : List (Int × Int)) (w : World) (hrd : RdN w A l) (hl : l.length ≤ 1000000000) :
    Calls Try.prog 24 #[.slice A l.length c] w (RetI 3 w.heap.size (onB l) w) := by
  cases hB : tuneB l
  · have HV := Lib.hid (onB_no hB)
    have HB := Lib.hid hB
    clear hB
    go_enter Try.func24, Try.ntmps24
    go_wp2
    go_loopw [3, 4] (fun v i wr => v = .slice (some ⟨w.heap.size, 0, none⟩) 0 0 ∧ i = .int .i64 0 ∧ OwnI 3 w.heap.size wr (.slice (some ⟨w.heap.size, 0, none⟩) 0 0) [] ∧ Below w.heap.size w wr) (fun _ i _ => 0)
    case atStart => exact ⟨rfl, rfl, OwnI.lit0 _ _, (Below.refl _ _).alloc (Nat.le_refl _) _⟩
    case round =>
      obtain ⟨rfl, rfl, ho, hb⟩ := hrel
      by_cases hlt : 0 < l.length
      · go_wp2_with fail
        refine (spec_TuneOk _ _ _ _ (hrd.below hb rfl) (by omega)).mono ?_
        rintro e wz ⟨rfl, hbz⟩
        rw [HB.out]
        have ho2 := ho.below hbz rfl
        have hb2 := hb.trans (hbz.mono hb.size)
        go_wp2
        go_ret
        rw [HV.out]
        exact RetI.mk ho2 hb2
      · go_wp2
        go_ret
        rw [HV.out]
        exact RetI.mk ho hb
  · have HV := Lib.hid (onB_yes hB)
    have HB := Lib.hid hB
    clear hB
    go_enter Try.func24, Try.ntmps24
    go_wp2
    go_loopw [3, 4] (fun v i wr => ∃ k : Nat, k ≤ l.length ∧ i = .int .i64 k ∧ OwnI 3 w.heap.size wr v (onZ l k) ∧ Below w.heap.size w wr) (fun _ i _ => l.length - (intOf i).toNat)
    case atStart => exact ⟨0, by omega, rfl, by rw [show onZ l 0 = [] by unfold onZ; rfl]; exact OwnI.lit0 _ _, (Below.refl _ _).alloc (Nat.le_refl _) _⟩
    case round =>
      obtain ⟨k, hk, rfl, ho, hb⟩ := hrel
      by_cases hlt : k < l.length
      · go_wp2_with fail
        refine (spec_TuneOk _ _ _ _ (hrd.below hb rfl) (by omega)).mono ?_
        rintro e wz ⟨rfl, hbz⟩
        rw [HB.out]
        have hown := ho.below hbz rfl
        have hbW := hb.trans (hbz.mono hb.size)
        clear ho hb hbz
        have hlen := onZ_len l k
        obtain ⟨A1, c1, rfl, hc1, hm1, hr1⟩ := hown.rd
        obtain ⟨b, o, rfl, lb, hcl⟩ := hrd (by omega)
        have k1 := (hbW.cell (p := ⟨b, o + k * 2, none⟩) lb).trans (hcl k hlt).1
        have hBs : w.heap.size ≤ wz.heap.size := hbW.size
        rcases Nat.eq_zero_or_pos k with h0 | h0
        · have hz : (onZ l k).length = 0 := by omega
          have HY := Lib.hid (onZ_yes (l := l) (k := k) (Or.inl h0))
          have hn1 : ((onZ l k).length : Int) = 0 := by omega
          have h0i : (0 : Int) ≤ (k : Int) := by omega
          have h0j : (k : Int) < (l.length : Int) := by omega
          clear hrd hcl h0 hr1 hc1 hm1 hz
          go_wp2_with fail
          go_quiet (fail)
          go_wp2_with (at_builtin; refine app_int rfl _ _ 24 rfl 3 Try.underlying24 (by kernel_rfl) w.heap.size _ (onZ l k) (tm l k) (hown.below (bel_drewN (Below.refl _ _) _) rfl) rfl rfl (by omega) hBs ?_; intro v' w2 hown1 hb2)
          go_roundw
          case rel => exact ⟨k + 1, by omega, by go_num, by rw [HY.out]; exact hown1, (bel_drewN hbW _).trans hb2⟩
          case measure => simp [intOf]; omega
        · obtain ⟨m, hm⟩ : ∃ m, k = m + 1 := ⟨k - 1, by omega⟩
          obtain ⟨n, hn, hg⟩ := onZ_last l m
          rw [← hm] at hn hg
          obtain ⟨b1, o1, rfl, lb1, hcl1⟩ := hr1 (by omega)
          have k2 := hcl1 n (by omega)
          rw [hg] at k2
          clear hcl1 hr1
          obtain ⟨q, hq⟩ : ∃ q, q = (onZ l k).length := ⟨_, rfl⟩
          rw [← hq] at hn hc1 hown ⊢
          have hq9 : q ≤ 1000000000 := by omega
          have hn1 : ¬ (q : Int) = 0 := by omega
          have hn2 : ¬ q = 0 := by omega
          have hn3 : ((q : Int) == 0) = false := by simpa using hn2
          have hn4 : decide ((q : Int) = 0) = false := decide_eq_false hn1
          have h0i : (0 : Int) ≤ (k : Int) := by omega
          have h0j : (k : Int) < (l.length : Int) := by omega
          have h0g : (0 : Int) ≤ (n : Int) := by omega
          have h0h : (n : Int) < (q : Int) := by omega
          have HW := Lib.hid (show IntKind.i64.wrap ((q : Int) - 1) = (n : Int) by rw [show ((q : Int) - 1) = (n : Int) by omega]; exact IntWalk.i64_in _ (by omega))
          clear hq
          by_cases hd : tm l m = tm l k
          · have HY := Lib.hid (onZ_no (l := l) (k := k) (fun h => h.elim (fun h => by omega) (fun h => h (by rw [show k - 1 = m by omega]; exact hd))))
            rw [hd] at k2
            clear hrd hcl h0 hc1 hm1 hm hn hg
            go_wp2_with fail
            have hwr := HW.out
            go_quiet (fail)
            clear hwr
            go_wp2
            go_roundw
            case rel => exact ⟨k + 1, by omega, by go_num, by rw [HY.out]; exact (hown.below (bel_drewN (Below.refl _ _) _) rfl), bel_drewN hbW _⟩
            case measure => simp [intOf]; omega
          · have HY := Lib.hid (onZ_yes (l := l) (k := k) (Or.inr (by rw [show k - 1 = m by omega]; exact hd)))
            clear hrd hcl h0 hc1 hm1 hm hn hg
            go_wp2_with fail
            have hwr := HW.out
            go_quiet (fail)
            clear hwr
            go_wp2_with (at_builtin; refine app_int rfl _ _ 24 rfl 3 Try.underlying24 (by kernel_rfl) w.heap.size _ (onZ l k) (tm l k) (hown.below (bel_drewN (Below.refl _ _) _) rfl) rfl rfl (by omega) hBs ?_; intro v' w2 hown1 hb2)
            go_roundw
            case rel => exact ⟨k + 1, by omega, by go_num, by rw [HY.out]; exact hown1, (bel_drewN hbW _).trans hb2⟩
            case measure => simp [intOf]; omega
      · go_wp2
        go_ret
        obtain rfl : k = l.length := by omega
        rw [HV.out]
        exact RetI.mk ho hb
attribute [local irreducible] tm pt lessB onZ tuneB in
set_option maxHeartbeats 800000 in
theorem impl_OnTimes (A : Option Addr) (c : Nat) (l : List (Int × Int)) (w : World) (hrd : RdN w A l) (hl : l.length ≤ 1000000000) :
    Calls Try.prog 16 #[.slice A l.length c] w (RetI 3 w.heap.size (onB l) w) := by
  cases hB : tuneB l
  · have HV := Lib.hid (onB_no hB)
    have HB := Lib.hid hB
    clear hB
    go_enter Try.func16, Try.ntmps16
    go_wp2_with fail
    refine (impl_TuneOk _ _ _ _ hrd (by omega)).mono ?_
    rintro e wz ⟨rfl, hbz⟩
    rw [HB.out]
    go_wp2
    go_ret
    rw [HV.out]
    exact RetI.mk (OwnI.nil0 wz _ _) hbz
  · have HV := Lib.hid (onB_yes hB)
    have HB := Lib.hid hB
    clear hB
    go_enter Try.func16, Try.ntmps16
    go_wp2_with fail
    refine (impl_TuneOk _ _ _ _ hrd (by omega)).mono ?_
    rintro e w1 ⟨rfl, hb1⟩
    rw [HB.out]
    have hr1 := hrd.below hb1 rfl
    clear hrd
    go_wp2
    go_loopw [3, 12] (fun v i wr => ∃ k : Nat, k ≤ l.length ∧ i = .int .i64 k ∧ OwnI 3 w1.heap.size wr v (onZ l k) ∧ Below w1.heap.size w1 wr) (fun _ i _ => l.length - (intOf i).toNat)
    case atStart => exact ⟨0, by omega, rfl, by rw [show onZ l 0 = [] by unfold onZ; rfl]; exact OwnI.lit0 _ _, (Below.refl _ _).alloc (Nat.le_refl _) _⟩
    case round =>
      obtain ⟨k, hk, rfl, hown, hb⟩ := hrel
      by_cases hlt : k < l.length
      · have hlen := onZ_len l k
        obtain ⟨b, o, rfl, lb, hcl⟩ := hr1 (by omega)
        have k1 := (hb.cell (p := ⟨b, o + k * 2, none⟩) lb).trans (hcl k hlt).1
        have k3 := (hb.cell (p := ⟨b, o + k * 2 + 1, none⟩) lb).trans (hcl k hlt).2
        have mb : b < wr.heap.size := Nat.lt_of_lt_of_le lb hb.size
        have hBs : w1.heap.size ≤ wr.heap.size := hb.size
        have h0i : (0 : Int) ≤ (k : Int) := by omega
        have h0j : (k : Int) < (l.length : Int) := by omega
        obtain ⟨W, hW⟩ : ∃ W, W = wr.alloc (Obj.cells #[.int .i64 (tm l k), .int .i64 (pt l k)] 37) := ⟨_, rfl⟩
        have hBW : Below wr.heap.size wr W := by rw [hW]; exact (Below.refl _ _).alloc (Nat.le_refl _) _
        have n1 : W.cell? ⟨wr.heap.size, 0, none⟩ = some (.int .i64 (tm l k)) := by rw [hW]; simp [go_sem]
        have n2 : W.cell? ⟨wr.heap.size, 1, none⟩ = some (.int .i64 (pt l k)) := by rw [hW]; simp [go_sem]
        have ho2 := hown.below hBW rfl
        have hbW := hb.trans (hBW.mono hBs)
        have hBs2 : w1.heap.size ≤ W.heap.size := hbW.size
        have HW := Lib.hid hW
        rcases Nat.eq_zero_or_pos k with h0 | h0
        · have HY := Lib.hid (onZ_yes (l := l) (k := k) (Or.inl h0))
          have hn3 : ((k : Int) == 0) = true := by simpa using h0
          have hn4 : decide ((k : Int) = 0) = true := decide_eq_true (by omega)
          have hn5 : decide (k = 0) = true := decide_eq_true h0
          clear hr1 hcl h0 hW hBW
          go_wp2_with fail
          rw [← HW.out]
          go_quiet (fail)
          go_wp2_with (at_builtin; refine app_int rfl _ _ 24 rfl 3 Try.underlying24 (by kernel_rfl) w1.heap.size _ (onZ l k) (tm l k) (ho2.below (bel_drewN (Below.refl _ _) _) rfl) rfl rfl (by omega) hBs2 ?_; intro v' w2 hown1 hb2)
          go_roundw
          case rel => exact ⟨k + 1, by omega, by go_num, by rw [HY.out]; exact hown1, (bel_drewN hbW _).trans hb2⟩
          case measure => simp [intOf]; omega
        · obtain ⟨m, hm⟩ : ∃ m, k = m + 1 := ⟨k - 1, by omega⟩
          have k2 := (hbW.cell (p := ⟨b, o + m * 2, none⟩) lb).trans (hcl m (by omega)).1
          have hn1 : ¬ (k : Int) = 0 := by omega
          have hn2 : ¬ k = 0 := by omega
          have hn3 : ((k : Int) == 0) = false := by simpa using hn2
          have hn4 : decide ((k : Int) = 0) = false := decide_eq_false hn1
          have h0g : (0 : Int) ≤ (m : Int) := by omega
          have h0h : (m : Int) < (l.length : Int) := by omega
          have HI := Lib.hid (show IntKind.i64.wrap ((k : Int) - 1) = (m : Int) by rw [show ((k : Int) - 1) = (m : Int) by omega]; exact IntWalk.i64_in _ (by omega))
          by_cases hd : tm l m = tm l k
          · have HY := Lib.hid (onZ_no (l := l) (k := k) (fun h => h.elim (fun h => by omega) (fun h => h (by rw [show k - 1 = m by omega]; exact hd))))
            rw [hd] at k2
            clear hr1 hcl h0 hW hBW hm
            go_wp2_with fail
            rw [← HW.out]
            have hwr := HI.out
            go_quiet (fail)
            clear hwr
            go_wp2
            go_roundw
            case rel => exact ⟨k + 1, by omega, by go_num, by rw [HY.out]; exact (ho2.below (bel_drewN (Below.refl _ _) _) rfl), bel_drewN hbW _⟩
            case measure => simp [intOf]; omega
          · have HY := Lib.hid (onZ_yes (l := l) (k := k) (Or.inr (by rw [show k - 1 = m by omega]; exact hd)))
            clear hr1 hcl h0 hW hBW hm
            go_wp2_with fail
            rw [← HW.out]
            have hwr := HI.out
            go_quiet (fail)
            clear hwr
            go_wp2_with (at_builtin; refine app_int rfl _ _ 24 rfl 3 Try.underlying24 (by kernel_rfl) w1.heap.size _ (onZ l k) (tm l k) (ho2.below (bel_drewN (Below.refl _ _) _) rfl) rfl rfl (by omega) hBs2 ?_; intro v' w2 hown1 hb2)
            go_roundw
            case rel => exact ⟨k + 1, by omega, by go_num, by rw [HY.out]; exact hown1, (bel_drewN hbW _).trans hb2⟩
            case measure => simp [intOf]; omega
      · go_wp2
        go_ret
        obtain rfl : k = l.length := by omega
        rw [HV.out]
        exact RetI.mk (hown.base_le hb1.size) (hb1.trans (hb.mono hb1.size))
end Go.Proofs.Ytkbceojeahninaa
