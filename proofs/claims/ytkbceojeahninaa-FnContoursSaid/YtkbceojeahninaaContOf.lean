/- The contour of a tune. -/
import Derived.Test.YtkbceojeahninaaBase
import Derived.Test.YtkbceojeahninaaBytes
import Derived.Test.YtkbceojeahninaaTune
import Derived.Test.YtkbceojeahninaaRows
import Derived.Deep.QuietTactic
import Derived.BigQuiet
import Derived.Outline
namespace Go.Proofs.Ytkbceojeahninaa
open Go.ChangeShapes Go.WideShapes Go.ChangeAt Go.RowKit
set_option linter.unusedVariables false
theorem OwnB.low {e B B' : Nat} {w w' : World} {v : Value} {l : List UInt8} (h : OwnB e B' w v l) (hb : Below B w w') (hB : B = w.heap.size) : OwnB e B' w' v l := ownsRow_below h hb hB
theorem ret_s {a b : ByteArray} (h : a = b) : Ending.returned (.string a) = .returned (.string b) := by rw [h]
def let3 (x y : Int) : UInt8 := if y < x then 85 else if x < y then 68 else 83
def conZ (l : List (Int × Int)) : Nat → List UInt8
  | 0 => []
  | k + 1 => conZ l k ++ [let3 (pt l (k + 1)) (pt l k)]
theorem conZ_len (l : List (Int × Int)) : ∀ k, (conZ l k).length = k
  | 0 => rfl
  | k + 1 => by unfold conZ; simp [conZ_len l k]
theorem conZ_next {l : List (Int × Int)} {K m : Nat} {u : UInt8} (h : K = m + 1) (hu : let3 (pt l K) (pt l m) = u) : conZ l (K + 1 - 1) = conZ l (K - 1) ++ [u] := by
  subst h; subst hu; rfl
noncomputable def conB (l : List (Int × Int)) : ByteArray := if tuneB l then mkS (conZ l (l.length - 1)) else mkS []
theorem conB_yes {l : List (Int × Int)} (h : tuneB l = true) : conB l = mkS (conZ l (l.length - 1)) := by unfold conB; rw [h]; rfl
theorem conB_no {l : List (Int × Int)} (h : tuneB l = false) : conB l = mkS [] := by unfold conB; rw [h]; rfl
attribute [local irreducible] tm pt conZ tuneB mkS in
set_option maxHeartbeats 800000 in
theorem impl_ContourOf (A : Option Addr) (c : Nat) (l : List (Int × Int)) (w : World) (hrd : RdN w A l) (hl : l.length ≤ 1000000000) :
    Calls Try.prog 30 #[.slice A l.length c] w fun e w' => e = .returned (.string (conB l)) ∧ Below w.heap.size w w' := by
  cases hB : tuneB l
  · have HV := Lib.hid (conB_no hB)
    have HB := Lib.hid hB
    clear hB
    have HE := Lib.hid (show mkS [] = (⟨#[]⟩ : ByteArray) by unfold mkS; rfl)
    go_enter Try.func30, Try.ntmps30
    go_wp2_with fail
    refine (impl_TuneOk _ _ _ _ hrd (by omega)).mono ?_
    rintro e wz ⟨rfl, hbz⟩
    rw [HB.out]
    go_wp2
    go_ret
    exact ⟨ret_s (HE.out.symm.trans HV.out.symm), hbz⟩
  · have HV := Lib.hid (conB_yes hB)
    have HB := Lib.hid hB
    clear hB
    go_enter Try.func30, Try.ntmps30
    go_wp2_with fail
    refine (impl_TuneOk _ _ _ _ hrd (by omega)).mono ?_
    rintro e w1 ⟨rfl, hb1⟩
    rw [HB.out]
    have hr1 := hrd.below hb1 rfl
    clear hrd
    go_wp2
    go_loopw [3, 4] (fun v i wr => ∃ K : Nat, 1 ≤ K ∧ K ≤ l.length - 1 + 1 ∧ i = .int .i64 K ∧ OwnB 5 w1.heap.size wr v (conZ l (K - 1)) ∧ Below w1.heap.size w1 wr) (fun _ i _ => l.length - (intOf i).toNat)
    case atStart => exact ⟨1, by omega, by omega, rfl, by unfold conZ; exact OwnB.lit0 _ _, (Below.refl _ _).alloc (Nat.le_refl _) _⟩
    case round =>
      obtain ⟨K, hK1, hK2, rfl, hown, hb⟩ := hrel
      by_cases hlt : K < l.length
      · obtain ⟨m, hm⟩ : ∃ m, K = m + 1 := ⟨K - 1, by omega⟩
        obtain ⟨b, o, rfl, lb, hcl⟩ := hr1 (by omega)
        have k1 := (hb.cell (p := ⟨b, o + K * 2 + 1, none⟩) lb).trans (hcl K hlt).2
        have k2 := (hb.cell (p := ⟨b, o + m * 2 + 1, none⟩) lb).trans (hcl m (by omega)).2
        have hBs := hb.size
        have hgl : (conZ l (K - 1)).length ≤ 1000000000 := by rw [conZ_len]; omega
        have h0i : (0 : Int) ≤ (K : Int) := by omega
        have h0j : (K : Int) < (l.length : Int) := by omega
        have h0g : (0 : Int) ≤ (m : Int) := by omega
        have h0h : (m : Int) < (l.length : Int) := by omega
        have HI := Lib.hid (show IntKind.i64.wrap ((K : Int) - 1) = (m : Int) by rw [show ((K : Int) - 1) = (m : Int) by omega]; exact IntWalk.i64_in _ (by omega))
        by_cases h1 : pt l m < pt l K
        · have HY := Lib.hid (conZ_next (l := l) (u := 85) hm (by unfold let3; rw [if_pos h1]))
          clear hr1 hcl hm
          go_wp2_with fail
          have hwr := HI.out
          go_quiet (fail)
          clear hwr
          go_wp2_with (at_builtin; refine app_byte rfl _ _ 22 rfl 5 Try.underlying22 (by kernel_rfl) w1.heap.size _ (conZ l (K - 1)) 85 85 rfl (hown.low (bel_drewN (Below.refl _ _) _) rfl) rfl rfl hgl hBs ?_; intro v' w2 hown1 hb2)
          go_roundw
          case rel => exact ⟨K + 1, by omega, by omega, by go_num, by rw [HY.out]; exact hown1, (bel_drewN hb _).trans hb2⟩
          case measure => simp [intOf]; omega
        · by_cases h2 : pt l K < pt l m
          · have HY := Lib.hid (conZ_next (l := l) (u := 68) hm (by unfold let3; rw [if_neg h1, if_pos h2]))
            clear hr1 hcl hm
            go_wp2_with fail
            have hwr := HI.out
            go_quiet (fail)
            clear hwr
            go_wp2_with fail
            have hwr := HI.out
            go_quiet (fail)
            clear hwr
            go_wp2_with (at_builtin; refine app_byte rfl _ _ 22 rfl 5 Try.underlying22 (by kernel_rfl) w1.heap.size _ (conZ l (K - 1)) 68 68 rfl (hown.low (bel_drewN (Below.refl _ _) _) rfl) rfl rfl hgl hBs ?_; intro v' w2 hown1 hb2)
            go_roundw
            case rel => exact ⟨K + 1, by omega, by omega, by go_num, by rw [HY.out]; exact hown1, (bel_drewN hb _).trans hb2⟩
            case measure => simp [intOf]; omega
          · have HY := Lib.hid (conZ_next (l := l) (u := 83) hm (by unfold let3; rw [if_neg h1, if_neg h2]))
            clear hr1 hcl hm
            go_wp2_with fail
            have hwr := HI.out
            go_quiet (fail)
            clear hwr
            go_wp2_with fail
            have hwr := HI.out
            go_quiet (fail)
            clear hwr
            go_wp2_with (at_builtin; refine app_byte rfl _ _ 22 rfl 5 Try.underlying22 (by kernel_rfl) w1.heap.size _ (conZ l (K - 1)) 83 83 rfl (hown.low (bel_drewN (Below.refl _ _) _) rfl) rfl rfl hgl hBs ?_; intro v' w2 hown1 hb2)
            go_roundw
            case rel => exact ⟨K + 1, by omega, by omega, by go_num, by rw [HY.out]; exact hown1, (bel_drewN hb _).trans hb2⟩
            case measure => simp [intOf]; omega
      · have HE := Lib.hid (show conB l = mkS (conZ l (K - 1)) by rw [HV.out, show l.length - 1 = K - 1 by omega])
        go_wp2_with (refine conv_bytes rfl _ 22 9 rfl 5 w1.heap.size _ (conZ l (K - 1)) Try.underlying22 Try.underlying5 Try.underlying9 hown rfl ?_)
        go_ret
        exact ⟨ret_s HE.out.symm, hb1.trans (hb.mono hb1.size)⟩
end Go.Proofs.Ytkbceojeahninaa
