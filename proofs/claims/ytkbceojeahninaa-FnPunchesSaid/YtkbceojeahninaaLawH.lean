/- The laws' helpers: big, at, has, btoi. -/
import Derived.Test.YtkbceojeahninaaBase
import Derived.Test.YtkbceojeahninaaCur
import Derived.IntWalk
namespace Go.Proofs.Ytkbceojeahninaa
open Go.ChangeShapes Go.WideShapes Go.ChangeAt Go.RowKit
set_option linter.unusedVariables false
theorem big_no (A : Option Addr) (n c : Nat) (w : World) (h : n ≤ 1048576) : Calls Try.prog 8 #[.slice A n c] w fun e w' => e = .returned (.bool false) ∧ w = w' := by
  have h1 : ¬ (1048576 : Int) < (n : Int) := by omega
  go_enter Try.func8, Try.ntmps8
  go_wp2
  go_ret
  exact ⟨rfl, rfl⟩
theorem big_yes (A : Option Addr) (n c : Nat) (w : World) (h : ¬ n ≤ 1048576) : Calls Try.prog 8 #[.slice A n c] w fun e w' => e = .returned (.bool true) ∧ w = w' := by
  have h1 : (1048576 : Int) < (n : Int) := by omega
  go_enter Try.func8, Try.ntmps8
  go_wp2
  go_ret
  exact ⟨rfl, rfl⟩
theorem at_any (A : Option Addr) (n c : Nat) (w : World) (k N : Nat) (hn : n ≤ 1048576) (hr : RdU w A n N) (hk : k ≤ 100) : Calls Try.prog 10 #[.slice A n c, .int .i64 k] w fun e w' => ∃ x : Int, 0 ≤ x ∧ x ≤ 255 ∧ e = .returned (.int .i64 x) ∧ w = w' := by
  by_cases h0 : n = 0
  · subst h0
    go_enter Try.func10, Try.ntmps10
    go_wp2
    go_ret
    exact ⟨0, by omega, by omega, rfl, rfl⟩
  · obtain ⟨b, o, rfl, hb, hc⟩ := hr (by omega)
    obtain ⟨u, hu, hu0, hu1⟩ := hc ((k * 5 + 1) % n) (Nat.mod_lt _ (by omega))
    have hm : ((k : Int) * 5 + 1).tmod (n : Int) = (((k * 5 + 1) % n : Nat) : Int) := by
      rw [Int.tmod_eq_emod_of_nonneg (by omega)]; push_cast; rfl
    have hw1 : IntKind.i64.wrap (k * 5 : Int) = (k : Int) * 5 := IntWalk.i64_in _ (by omega)
    have hw2 : IntKind.i64.wrap ((k : Int) * 5 + 1) = (k : Int) * 5 + 1 := IntWalk.i64_in _ (by omega)
    have hz : ¬ (n : Int) = 0 := by omega
    have hz1 : ¬ (n : Int) = -1 := by omega
    have hzb : ((n : Int) == 0) = false := beq_eq_false_iff_ne.2 hz
    have hzn : (n == 0) = false := beq_eq_false_iff_ne.2 h0
    have hlt := Nat.mod_lt (k * 5 + 1) (show 0 < n by omega)
    clear hc
    generalize hM : (k * 5 + 1) % n = M at *
    have h0a : (0 : Int) ≤ (M : Int) := by omega
    have h0b : (M : Int) < (n : Int) := by omega
    go_enter Try.func10, Try.ntmps10
    go_wp2
    exact bodyPost_ret (v := .int .i64 u) (by simp [results, Try.results10, go_sem]) rfl ⟨u, hu0, hu1, rfl, rfl⟩
def hasI (l : List Int) (x : Int) : Bool := decide (x ∈ l)
theorem hasI_at {l : List Int} {x : Int} {k : Nat} (hk : k < l.length) (h : gt l k = x) : hasI l x = true := by
  refine decide_eq_true ?_
  rw [← h]
  unfold gt
  simp [List.getD, hk]
theorem hasI_no {l : List Int} {x : Int} (h : ∀ k, k < l.length → gt l k ≠ x) : hasI l x = false := by
  refine decide_eq_false fun hm => ?_
  obtain ⟨k, hk, e⟩ := List.getElem_of_mem hm
  refine h k hk ?_
  unfold gt
  simp [List.getD, hk, e]
theorem ne_step {l : List Int} {x : Int} {k : Nat} (h : ∀ i, i < k → gt l i ≠ x) (hk : gt l k ≠ x) : ∀ i, i < k + 1 → gt l i ≠ x := by
  intro i hi
  by_cases e : i = k
  · subst e; exact hk
  · exact h i (by omega)
attribute [local irreducible] gt hasI in
theorem has_any (A : Option Addr) (c : Nat) (l : List Int) (x : Int) (w : World) (hrd : RdI w A l) (hl : l.length ≤ 1000000000) : Calls Try.prog 11 #[.slice A l.length c, .int .i64 x] w fun e w' => e = .returned (.bool (hasI l x)) ∧ w = w' := by
  have HY := Lib.hid (fun k (hk : k < l.length) h => hasI_at (x := x) hk h)
  have HN := Lib.hid (fun h => hasI_no (l := l) (x := x) h)
  go_enter Try.func11, Try.ntmps11
  go_wp2
  go_loop [5] (fun i => ∃ K : Nat, K ≤ l.length ∧ i = .int .i64 K ∧ ∀ j, j < K → gt l j ≠ x) (fun i => l.length - (intOf i).toNat)
  case atStart => exact ⟨0, by omega, rfl, fun _ h => by omega⟩
  case round =>
    obtain ⟨K, hK, rfl, hJ⟩ := hrel
    have HJ := Lib.hid hJ
    clear hJ
    by_cases hlt : K < l.length
    · obtain ⟨b, o, rfl, lb, hc⟩ := hrd (by omega)
      have k1 := hc K hlt
      have h0a : (0 : Int) ≤ (K : Int) := by omega
      have h0b : (K : Int) < (l.length : Int) := by omega
      clear hc hrd
      by_cases hx : gt l K = x
      · have HX := Lib.hid (HY.out K hlt hx)
        have hx2 : (gt l K == x) = true := beq_iff_eq.2 hx
        clear hx
        go_wp2
        go_ret
        exact ⟨ret_bool HX.out.symm, rfl⟩
      · have HX := Lib.hid (ne_step HJ.out hx)
        have hx2 : (gt l K == x) = false := beq_eq_false_iff_ne.2 hx
        clear hx
        go_wp2
        go_round
        case rel => exact ⟨K + 1, by omega, by go_num, HX.out⟩
        case measure => simp [intOf]; omega
    · obtain rfl : K = l.length := by omega
      have HX := Lib.hid (HN.out HJ.out)
      go_wp2
      go_ret
      exact ⟨ret_bool HX.out.symm, rfl⟩
end Go.Proofs.Ytkbceojeahninaa
