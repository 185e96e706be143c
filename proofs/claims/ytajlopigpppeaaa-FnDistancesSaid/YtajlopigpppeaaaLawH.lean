/- The laws' helpers: big, at, has, btoi. -/
import Derived.Test.YtajlopigpppeaaaBase
import Derived.Test.YtajlopigpppeaaaCur
import Derived.IntWalk
namespace Go.Proofs.Ytajlopigpppeaaa
open Go.ChangeShapes Go.WideShapes Go.ChangeAt Go.RowKit
set_option linter.unusedVariables false
theorem big_no (A : Option Addr) (n c : Nat) (w : World) (h : n ≤ 1048576) : Calls Try.prog 23 #[.slice A n c] w fun e w' => e = .returned (.bool false) ∧ w = w' := by
  have h1 : ¬ (1048576 : Int) < (n : Int) := by omega
  go_enter Try.func23, Try.ntmps23
  go_wp2
  go_ret
  exact ⟨rfl, rfl⟩
theorem big_yes (A : Option Addr) (n c : Nat) (w : World) (h : ¬ n ≤ 1048576) : Calls Try.prog 23 #[.slice A n c] w fun e w' => e = .returned (.bool true) ∧ w = w' := by
  have h1 : (1048576 : Int) < (n : Int) := by omega
  go_enter Try.func23, Try.ntmps23
  go_wp2
  go_ret
  exact ⟨rfl, rfl⟩
theorem at_any (A : Option Addr) (n c : Nat) (w : World) (k N : Nat) (hn : n ≤ 1048576) (hr : RdU w A n N) (hk : k ≤ 100) : Calls Try.prog 25 #[.slice A n c, .int .i64 k] w fun e w' => ∃ x : Int, 0 ≤ x ∧ x ≤ 255 ∧ e = .returned (.int .i64 x) ∧ w = w' := by
  by_cases h0 : n = 0
  · subst h0
    go_enter Try.func25, Try.ntmps25
    go_wp2
    go_ret
    exact ⟨0, by omega, by omega, rfl, rfl⟩
  · obtain ⟨b, o, rfl, hb, hc⟩ := hr (by omega)
    obtain ⟨u, hu, hu0, hu1⟩ := hc ((k * 5 + 1) % n) (Nat.mod_lt _ (by omega))
    have hm : ((k : Int) * 5 + 1).tmod (n : Int) = (((k * 5 + 1) % n : Nat) : Int) := by
      rw [Int.tmod_eq_emod_of_nonneg (by omega)]; push_cast; rfl
    have hw1 : IntKind.i64.wrap (k * 5 : Int) = (k : Int) * 5 := IntWalk.i64_in _ (by omega)
    have hw2 : IntKind.i64.wrap ((k : Int) * 5 + 1) = (k : Int) * 5 + 1 := IntWalk.i64_in _ (by omega)
    have hz : ¬ (n : Int) = 0 := by omega
    have hz1 : ¬ (n : Int) = -1 := by omega
    have hzb : ((n : Int) == 0) = false := beq_eq_false_iff_ne.2 hz
    have hzn : (n == 0) = false := beq_eq_false_iff_ne.2 h0
    have hlt := Nat.mod_lt (k * 5 + 1) (show 0 < n by omega)
    clear hc
    generalize hM : (k * 5 + 1) % n = M at *
    have h0a : (0 : Int) ≤ (M : Int) := by omega
    have h0b : (M : Int) < (n : Int) := by omega
    go_enter Try.func25, Try.ntmps25
    go_wp2
    exact bodyPost_ret (v := .int .i64 u) (by simp [results, Try.results25, go_sem]) rfl ⟨u, hu0, hu1, rfl, rfl⟩
end Go.Proofs.Ytajlopigpppeaaa
