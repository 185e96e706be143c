/- The comparison by which TrackOrder sorts. -/
import Derived.Test.YtkbceojeahninaaCylOk
import Derived.Test.YtkbceojeahninaaBstI
import Derived.Deep.Cut
namespace Go.Proofs.Ytkbceojeahninaa
open Go.ChangeShapes Go.WideShapes Go.ChangeAt Go.RowKit
set_option linter.unusedVariables false
def cmpZ (x y : Int) : Int := if x < y then -1 else if y < x then 1 else 0
theorem cmpZ_neg {x y : Int} : cmpZ x y < 0 ↔ x < y := by unfold cmpZ; split <;> (try split) <;> omega
theorem cmp_any (x y : Int) (w : World) : Calls Try.prog 78 #[.int .i64 x, .int .i64 y] w fun e w' => e = .returned (.int .i64 (cmpZ x y)) ∧ w = w' := by
  by_cases h1 : x < y
  · have HV := Lib.hid (show cmpZ x y = -1 from if_pos h1)
    go_enter Try.func78, Try.ntmps78
    go_wp2_with (go_at_call 103; go_in)
    go_ret
    exact ⟨ret_int HV.out.symm, rfl⟩
  · by_cases h2 : y < x
    · have HV := Lib.hid (show cmpZ x y = 1 by unfold cmpZ; rw [if_neg h1, if_pos h2])
      go_enter Try.func78, Try.ntmps78
      go_wp2_with (go_at_call 103; go_in)
      go_ret
      exact ⟨ret_int HV.out.symm, rfl⟩
    · have HV := Lib.hid (show cmpZ x y = 0 by unfold cmpZ; rw [if_neg h1, if_neg h2])
      go_enter Try.func78, Try.ntmps78
      go_wp2_with (go_at_call 103; go_in)
      go_ret
      exact ⟨ret_int HV.out.symm, rfl⟩
attribute [local irreducible] tm pt cmpZ in
theorem clo_any (bx pb po n c i k : Nat) (P : List (Int × Int)) (W : World) (hc : W.cell? ⟨bx, 2, none⟩ = some (.slice (some ⟨pb, po, none⟩) P.length c)) (k1 : W.cell? ⟨pb, po + i * 2, none⟩ = some (.int .i64 (tm P i))) (k2 : W.cell? ⟨pb, po + k * 2, none⟩ = some (.int .i64 (tm P k))) (hi : i < P.length) (hk : k < P.length) :
    Calls Try.prog 77 #[.int .i64 i, .int .i64 k, .pointer (some ⟨bx, 0, none⟩)] W fun e w' => e = .returned (.int .i64 (cmpZ (tm P i) (tm P k))) ∧ ∃ q, w' = W.drewN q := by
  have h0a : (0 : Int) ≤ (i : Int) := by omega
  have h0b : (i : Int) < (P.length : Int) := by omega
  have h0c : (0 : Int) ≤ (k : Int) := by omega
  have h0d : (k : Int) < (P.length : Int) := by omega
  go_enter Try.func77, Try.ntmps77
  go_wp2_with fail
  go_quiet ((go_at_call 78; exact quiet_u (cmp_any _ _ _)))
  go_wp2
  go_ret
  exact ⟨rfl, _, rfl⟩
end Go.Proofs.Ytkbceojeahninaa
