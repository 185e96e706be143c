/- Lists that rise in a range, and lists moved around: the program's and the reference's functions by contract. -/
import Derived.Test.YtkbceojeahninaaIn
import Derived.Test.YtkbceojeahninaaInts
import Derived.Test.YtkbceojeahninaaBools
import Derived.Deep.QuietTactic
import Derived.BigQuiet
import Derived.IntWalk
namespace Go.Proofs.Ytkbceojeahninaa
open Go.ChangeShapes Go.WideShapes Go.ChangeAt Go.RowKit
set_option linter.unusedVariables false
def risAt (l : List Int) (lo hi : Int) (i : Nat) : Prop := (lo ≤ gt l i ∧ gt l i ≤ hi) ∧ (0 < i → gt l (i - 1) < gt l i)
instance (l : List Int) (lo hi : Int) (i : Nat) : Decidable (risAt l lo hi i) := by unfold risAt; infer_instance
def risB (l : List Int) (lo hi : Int) : Bool := decide (∀ i, i < l.length → risAt l lo hi i)
theorem ris_no {l : List Int} {lo hi : Int} {i : Nat} (hi' : i < l.length) (h : ¬ risAt l lo hi i) : risB l lo hi = false := decide_eq_false fun hh => h (hh i hi')
theorem ris_yes {l : List Int} {lo hi : Int} (h : ∀ i, i < l.length → risAt l lo hi i) : risB l lo hi = true := decide_eq_true h
theorem to_succ {p : Nat → Prop} {k : Nat} (h : ∀ i, i < k → p i) (hk : p k) : ∀ i, i < k + 1 → p i := by
  intro i hi
  by_cases e : i = k
  · subst e; exact hk
  · exact h i (by omega)
set_option maxHeartbeats 800000 in
theorem rising_any (A : Option Addr) (c : Nat) (l : List Int) (lo hi : Int) (w : World) (hrd : RdI w A l) (hl : l.length ≤ 1000000000) :
    Calls Try.prog 54 #[.slice A l.length c, .int .i64 lo, .int .i64 hi] w fun e w' => e = .returned (.bool (risB l lo hi)) ∧ w = w' := by
  go_enter Try.func54, Try.ntmps54
  go_wp2
  go_loop [11] (fun q => ∃ k : Nat, k ≤ l.length ∧ q = .int .i64 k ∧ ∀ i, i < k → risAt l lo hi i) (fun q => l.length - (intOf q).toNat)
  case atStart => exact ⟨0, by omega, rfl, fun _ h => by omega⟩
  case round =>
    obtain ⟨k, hk, rfl, hM⟩ := hrel
    have HM := Lib.hid hM
    clear hM
    by_cases hlt : k < l.length
    · obtain ⟨b1, o1, rfl, _, hc1⟩ := hrd (by omega)
      have h1 := hc1 k hlt
      by_cases hin : lo ≤ gt l k ∧ gt l k ≤ hi
      · rcases Nat.eq_zero_or_pos k with h0 | h0
        · have HA : Hid (risAt l lo hi k) := ⟨hin, fun h => by omega⟩
          have h0' : ¬ (0 : Int) < (k : Int) := by omega
          clear hc1 hrd h0
          go_wp2_with (first | (go_at_call 53; refine (wi_yes _ _ _ _ ?_).mono ?_; omega; rintro e w1 ⟨rfl, rfl⟩) | (go_at_call 53; refine (wi_no _ _ _ _ ?_).mono ?_; omega; rintro e w1 ⟨rfl, rfl⟩))
          go_round
          case rel => exact ⟨k + 1, by omega, by go_num, to_succ HM.out HA.out⟩
          case measure => simp [intOf]; omega
        · obtain ⟨j, rfl⟩ : ∃ j, k = j + 1 := ⟨k - 1, by omega⟩
          have h2 := hc1 j (by omega)
          by_cases hr : gt l j < gt l (j + 1)
          · have HA : Hid (risAt l lo hi (j + 1)) := ⟨hin, fun h => by simpa using hr⟩
            clear hc1 hrd
            go_wp2_with (first | (go_at_call 53; refine (wi_yes _ _ _ _ ?_).mono ?_; omega; rintro e w1 ⟨rfl, rfl⟩) | (go_at_call 53; refine (wi_no _ _ _ _ ?_).mono ?_; omega; rintro e w1 ⟨rfl, rfl⟩))
            go_round
            case rel => exact ⟨j + 2, by omega, by go_num, to_succ HM.out HA.out⟩
            case measure => simp [intOf]; omega
          · have HA : Hid (risB l lo hi = false) := ris_no hlt (fun h => hr (by simpa using h.2 (by omega)))
            clear hc1 hrd
            go_wp2_with (first | (go_at_call 53; refine (wi_yes _ _ _ _ ?_).mono ?_; omega; rintro e w1 ⟨rfl, rfl⟩) | (go_at_call 53; refine (wi_no _ _ _ _ ?_).mono ?_; omega; rintro e w1 ⟨rfl, rfl⟩))
            go_ret
            exact ⟨ret_bool HA.out.symm, rfl⟩
      · have HA : Hid (risB l lo hi = false) := ris_no hlt (fun h => hin h.1)
        clear hc1 hrd
        go_wp2_with (first | (go_at_call 53; refine (wi_yes _ _ _ _ ?_).mono ?_; omega; rintro e w1 ⟨rfl, rfl⟩) | (go_at_call 53; refine (wi_no _ _ _ _ ?_).mono ?_; omega; rintro e w1 ⟨rfl, rfl⟩))
        go_ret
        exact ⟨ret_bool HA.out.symm, rfl⟩
    · clear hrd
      go_wp2
      go_ret
      obtain rfl : k = l.length := by omega
      exact ⟨ret_bool (ris_yes HM.out).symm, rfl⟩

/-- Whether a number is in a list. -/
def memB (l : List Int) (n : Int) : Bool := decide (∃ i, i < l.length ∧ gt l i = n)
theorem mem_yes {l : List Int} {n : Int} {i : Nat} (hi : i < l.length) (h : gt l i = n) : memB l n = true := decide_eq_true ⟨i, hi, h⟩
theorem mem_no {l : List Int} {n : Int} (h : ∀ i, i < l.length → gt l i ≠ n) : memB l n = false := decide_eq_false fun ⟨i, hi, he⟩ => h i hi he
set_option maxHeartbeats 800000 in
theorem holds_any (A : Option Addr) (c : Nat) (l : List Int) (n : Int) (w : World) (hrd : RdI w A l) (hl : l.length ≤ 1000000000) :
    Calls Try.prog 75 #[.slice A l.length c, .int .i64 n] w fun e w' => e = .returned (.bool (memB l n)) ∧ w = w' := by
  go_enter Try.func75, Try.ntmps75
  go_wp2
  go_loop [9] (fun q => ∃ k : Nat, k ≤ l.length ∧ q = .int .i64 k ∧ ∀ i, i < k → gt l i ≠ n) (fun q => l.length - (intOf q).toNat)
  case atStart => exact ⟨0, by omega, rfl, fun _ h => by omega⟩
  case round =>
    obtain ⟨k, hk, rfl, hM⟩ := hrel
    have HM := Lib.hid hM
    clear hM
    by_cases hlt : k < l.length
    · obtain ⟨b1, o1, rfl, _, hc1⟩ := hrd (by omega)
      have h1 := hc1 k hlt
      by_cases he : gt l k = n
      · have HA : Hid (memB l n = true) := mem_yes hlt he
        have hq : (gt l k == n) = true := by simpa using he
        clear hc1 hrd he
        go_wp2
        go_ret
        exact ⟨ret_bool HA.out.symm, rfl⟩
      · have HA := Lib.hid he
        have hq : (gt l k == n) = false := by simpa using he
        clear hc1 hrd he
        go_wp2
        go_round
        case rel => exact ⟨k + 1, by omega, by go_num, to_succ HM.out HA.out⟩
        case measure => simp [intOf]; omega
    · clear hrd
      go_wp2
      go_ret
      obtain rfl : k = l.length := by omega
      exact ⟨ret_bool (mem_no HM.out).symm, rfl⟩

/-- Whether each element of a, moved by a number, is in b; and as many are in both. -/
def movAt (a b : List Int) (n s : Int) (i : Nat) : Prop := memB b ((gt a i + n) % s) = true
instance (a b : List Int) (n s : Int) (i : Nat) : Decidable (movAt a b n s i) := by unfold movAt; infer_instance
def movB (a b : List Int) (n s : Int) : Bool := decide (a.length = b.length ∧ ∀ i, i < a.length → movAt a b n s i)
theorem mov_no {a b : List Int} {n s : Int} {i : Nat} (hi : i < a.length) (h : memB b ((gt a i + n) % s) = false) : movB a b n s = false :=
  decide_eq_false fun hh => by have := hh.2 i hi; unfold movAt at this; rw [h] at this; cases this
set_option maxHeartbeats 800000 in
theorem moved_any (A B : Option Addr) (c d : Nat) (a b : List Int) (n s : Int) (w : World) (hA : RdI w A a) (hB : RdI w B b) (hl : a.length ≤ 1000000000) (hm : b.length ≤ 1000000000) (hs : 1 ≤ s ∧ s ≤ 96) (hn : 0 ≤ n ∧ n ≤ 96)
    (hr : ∀ i, i < a.length → 0 ≤ gt a i ∧ gt a i ≤ s - 1) :
    Calls Try.prog 55 #[.slice A a.length c, .slice B b.length d, .int .i64 n, .int .i64 s] w fun e w' => e = .returned (.bool (movB a b n s)) ∧ w = w' := by
  obtain ⟨hs1, hs2⟩ := hs
  obtain ⟨hn1, hn2⟩ := hn
  by_cases hlen : a.length = b.length
  · have hq : ((a.length : Int) != (b.length : Int)) = false := by simp; omega
    have HE := Lib.hid hlen
    clear hlen
    go_enter Try.func55, Try.ntmps55
    go_wp2
    go_loop [18] (fun q => ∃ k : Nat, k ≤ a.length ∧ q = .int .i64 k ∧ ∀ i, i < k → movAt a b n s i) (fun q => a.length - (intOf q).toNat)
    case atStart => exact ⟨0, by omega, rfl, fun _ h => by omega⟩
    case round =>
      obtain ⟨k, hk, rfl, hM⟩ := hrel
      have HM := Lib.hid hM
      clear hM
      by_cases hlt : k < a.length
      · obtain ⟨b1, o1, rfl, _, hc1⟩ := hA (by omega)
        have h1 := hc1 k hlt
        obtain ⟨r1, r2⟩ := hr k hlt
        rcases hmem : memB b ((gt a k + n) % s) with _ | _
        · have HR : Hid (movB a b n s = false) := mov_no hlt hmem
          have HQ := Lib.hid hmem
          clear hc1 hA hr hmem
          go_wp2_with (go_at_call 75; refine (holds_any _ _ _ _ _ hB hm).mono ?_; rintro e w1 ⟨rfl, rfl⟩; rw [HQ.out])
          go_ret
          exact ⟨ret_bool HR.out.symm, rfl⟩
        · have HA : Hid (movAt a b n s k) := hmem
          have HQ := Lib.hid hmem
          clear hc1 hA hr hmem
          go_wp2_with (go_at_call 75; refine (holds_any _ _ _ _ _ hB hm).mono ?_; rintro e w1 ⟨rfl, rfl⟩; rw [HQ.out])
          go_round
          case rel => exact ⟨k + 1, by omega, by go_num, to_succ HM.out HA.out⟩
          case measure => simp [intOf]; omega
      · clear hA hr
        go_wp2
        go_ret
        obtain rfl : k = a.length := by omega
        exact ⟨ret_bool (decide_eq_true ⟨HE.out, HM.out⟩).symm, rfl⟩
  · have hq : ((a.length : Int) != (b.length : Int)) = true := by simp; omega
    have HR : Hid (movB a b n s = false) := decide_eq_false (fun hh => hlen hh.1)
    clear hlen
    go_enter Try.func55, Try.ntmps55
    go_wp2
    go_ret
    exact ⟨ret_bool HR.out.symm, rfl⟩

theorem quiet_w {P : Program} {f : FuncId} {args : Array Value} {w : World} {n : Nat} {v : Value} (h : Calls P f args (w.drewN n) fun e w' => e = .returned v ∧ w.drewN n = w') :
    Calls P f args (w.drewN n) fun e w'' => e = .returned v ∧ ∃ m, w'' = w.drewN m := h.mono fun _ _ ⟨he, hm⟩ => ⟨he, n, hm.symm⟩
def rhB (l : List Int) (s : Int) : Bool := decide (1 ≤ s ∧ s ≤ 96) && risB l 0 (s - 1)
end Go.Proofs.Ytkbceojeahninaa
