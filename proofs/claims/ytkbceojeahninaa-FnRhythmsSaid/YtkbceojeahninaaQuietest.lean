/- The longest silence of a tune. -/
import Derived.Test.YtkbceojeahninaaGaps
namespace Go.Proofs.Ytkbceojeahninaa
open Go.ChangeShapes Go.WideShapes Go.ChangeAt Go.RowKit
set_option linter.unusedVariables false
theorem max_if (a b : Int) : max a b = if a < b then b else a := by split <;> omega
attribute [local irreducible] tm pt gt onB gpZ gpB in
set_option maxHeartbeats 800000 in
theorem impl_LongestSilence (A : Option Addr) (c : Nat) (l : List (Int × Int)) (w : World) (hrd : RdN w A l) (hl : l.length ≤ 1000000000) :
    Calls Try.prog 18 #[.slice A l.length c] w fun e w' => e = .returned (.int .i64 (lsB l)) ∧ Below w.heap.size w w' := by
  cases hB : tuneB l
  · have HV := Lib.hid (lsB_no hB)
    have HB := Lib.hid hB
    clear hB
    go_enter Try.func18, Try.ntmps18
    go_wp2_with fail
    refine (impl_TuneOk _ _ _ _ hrd (by omega)).mono ?_
    rintro e w1 ⟨rfl, hb1⟩
    rw [HB.out]
    go_wp2
    go_ret
    exact ⟨ret_int HV.out.symm, hb1⟩
  · have HV := Lib.hid (lsB_yes hB)
    have HB := Lib.hid hB
    have hgl := gpB_len l
    clear hB
    go_enter Try.func18, Try.ntmps18
    go_wp2_with fail
    refine (impl_TuneOk _ _ _ _ hrd (by omega)).mono ?_
    rintro e w1 ⟨rfl, hb1⟩
    rw [HB.out]
    have hr1 := hrd.below hb1 rfl
    go_wp2_with fail
    refine (impl_GapsOf _ _ _ _ hr1 (by omega)).mono ?_
    rintro e w2 ⟨A2, c2, rfl, ho, _, _, _, hr2, hb2⟩
    have hb02 := hb1.trans (hb2.mono hb1.size)
    clear ho hb2 hr1 hb1 hrd
    go_wp2
    go_loopw [3, 12] (fun q i wr => ∃ k : Nat, k ≤ (gpB l).length ∧ i = .int .i64 k ∧ q = .int .i64 (maxTo (gpB l) k) ∧ Below w2.heap.size w2 wr) (fun _ i _ => (gpB l).length - (intOf i).toNat)
    case atStart => exact ⟨0, by omega, rfl, rfl, Below.refl _ _⟩
    case round =>
      obtain ⟨k, hk, rfl, rfl, hb⟩ := hrel
      by_cases hlt : k < (gpB l).length
      · obtain ⟨b, o, rfl, lb, hc⟩ := hr2 (by omega)
        have k1 := (hb.cell (p := ⟨b, o + k, none⟩) lb).trans (hc k hlt)
        clear hc hr2
        go_wp2
        go_roundw
        case rel => exact ⟨k + 1, by omega, by go_num, by rw [show maxTo (gpB l) (k + 1) = max (maxTo (gpB l) k) (gt (gpB l) k) from rfl, max_if], hb⟩
        case measure => simp [intOf]; omega
      · obtain rfl : k = (gpB l).length := by omega
        go_wp2
        go_ret
        exact ⟨ret_int HV.out.symm, hb02.trans (hb.mono hb02.size)⟩
end Go.Proofs.Ytkbceojeahninaa
