/- Whether two pitches are sweet, and whether a list of pitches is harsh. -/
import Derived.Test.YtkbceojeahninaaBase
import Derived.Test.YtkbceojeahninaaIn
import Derived.Test.YtkbceojeahninaaRows
import Derived.Deep.QuietTactic
import Derived.BigQuiet
import Derived.WalkSpells
import Derived.Outline
namespace Go.Proofs.Ytkbceojeahninaa
open Go.ChangeShapes Go.WideShapes Go.ChangeAt Go.RowKit
set_option linter.unusedVariables false
def stpD (a b : Int) : Int := (if a < b then b - a else a - b) % 12
def stpZ (a b : Int) : Int := if 12 - stpD a b < stpD a b then 12 - stpD a b else stpD a b
def swt (a b : Int) : Bool := decide (stpZ a b = 0) || (decide (3 ≤ stpZ a b) && decide (stpZ a b ≤ 5))
theorem stpD_rng (a b : Int) : 0 ≤ stpD a b ∧ stpD a b ≤ 11 := by unfold stpD; omega
theorem stpZ_rng (a b : Int) : 0 ≤ stpZ a b ∧ stpZ a b ≤ 6 := by have := stpD_rng a b; unfold stpZ; split <;> omega
theorem swt_comm (a b : Int) : swt a b = swt b a := by
  have h : stpD a b = stpD b a := by
    unfold stpD
    by_cases h1 : a < b
    · rw [if_pos h1, if_neg (by omega)]
    · by_cases h2 : b < a
      · rw [if_neg h1, if_pos h2]
      · rw [if_neg h1, if_neg h2]; congr 1; omega
  unfold swt stpZ; rw [h]
def p60 (a : Int) : Prop := 0 ≤ a ∧ a ≤ 60
theorem mag_lt (a b : Int) (w : World) (ha : p60 a) (hb : p60 b) (h : a < b) : Calls Try.prog 82 #[.int .i64 (a - b)] w fun e w' => e = .returned (.int .i64 (b - a)) ∧ w = w' := by
  obtain ⟨ha1, ha2⟩ := ha
  obtain ⟨hb1, hb2⟩ := hb
  have h' : a - b < 0 := by omega
  go_enter Try.func82, Try.ntmps82
  go_wp2
  go_ret
  exact ⟨ret_int (by omega), rfl⟩
theorem mag_ge (a b : Int) (w : World) (ha : p60 a) (hb : p60 b) (h : ¬ a < b) : Calls Try.prog 82 #[.int .i64 (a - b)] w fun e w' => e = .returned (.int .i64 (a - b)) ∧ w = w' := by
  obtain ⟨ha1, ha2⟩ := ha
  obtain ⟨hb1, hb2⟩ := hb
  have h' : ¬ a - b < 0 := by omega
  go_enter Try.func82, Try.ntmps82
  go_wp2
  go_ret
  exact ⟨rfl, rfl⟩
set_option maxHeartbeats 400000 in
theorem impl_Steps (a b : Int) (w : World) (ha : p60 a) (hb : p60 b) :
    Calls Try.prog 113 #[.int .i64 a, .int .i64 b] w fun e w' => e = .returned (.int .i64 (stpZ a b)) ∧ w = w' := by
  have ha' := ha
  have hb' := hb
  obtain ⟨ha1, ha2⟩ := ha'
  obtain ⟨hb1, hb2⟩ := hb'
  by_cases h : a < b
  · have hd : stpD a b = (b - a) % 12 := by unfold stpD; rw [if_pos h]
    have HD := Lib.hid hd
    have h' : 0 ≤ b - a := by omega
    clear hd
    go_enter Try.func113, Try.ntmps113
    go_wp2_with (first | (go_at_call 53; refine (wi_yes _ _ _ _ (by assumption)).mono ?_; rintro e wz ⟨rfl, rfl⟩) | (go_at_call 82; refine (mag_lt a b _ ha hb (by omega)).mono ?_; rintro e wz ⟨rfl, rfl⟩))
    all_goals (go_ret; exact ⟨ret_int (by unfold stpZ; rw [HD.out]; first | (split <;> split <;> omega) | (split <;> omega)), rfl⟩)
  · have hd : stpD a b = (a - b) % 12 := by unfold stpD; rw [if_neg h]
    have HD := Lib.hid hd
    have h' : 0 ≤ a - b := by omega
    clear hd
    go_enter Try.func113, Try.ntmps113
    go_wp2_with (first | (go_at_call 53; refine (wi_yes _ _ _ _ (by assumption)).mono ?_; rintro e wz ⟨rfl, rfl⟩) | (go_at_call 82; refine (mag_ge a b _ ha hb (by omega)).mono ?_; rintro e wz ⟨rfl, rfl⟩))
    all_goals (go_ret; exact ⟨ret_int (by unfold stpZ; rw [HD.out]; first | (split <;> split <;> omega) | (split <;> omega)), rfl⟩)
set_option maxHeartbeats 400000 in
theorem spec_Steps (a b : Int) (w : World) (ha : p60 a) (hb : p60 b) :
    Calls Try.prog 95 #[.int .i64 a, .int .i64 b] w fun e w' => e = .returned (.int .i64 (stpZ a b)) ∧ w = w' := by
  have ha' := ha
  have hb' := hb
  obtain ⟨ha1, ha2⟩ := ha'
  obtain ⟨hb1, hb2⟩ := hb'
  by_cases h : a < b
  · have hd : stpD a b = (b - a) % 12 := by unfold stpD; rw [if_pos h]
    have HD := Lib.hid hd
    have h' : a - b < b - a := by omega
    have h'' : 0 ≤ b - a := by omega
    clear hd
    go_enter Try.func95, Try.ntmps95
    go_wp2_with (go_at_call 93; refine (in_yes _ _ _ _ (by assumption)).mono ?_; rintro e wz ⟨rfl, rfl⟩)
    all_goals (go_ret; exact ⟨ret_int (by unfold stpZ; rw [HD.out]; first | (split <;> split <;> omega) | (split <;> omega)), rfl⟩)
  · have hd : stpD a b = (a - b) % 12 := by unfold stpD; rw [if_neg h]
    have HD := Lib.hid hd
    have h' : ¬ a - b < b - a := by omega
    have h'' : 0 ≤ a - b := by omega
    clear hd
    go_enter Try.func95, Try.ntmps95
    go_wp2_with (go_at_call 93; refine (in_yes _ _ _ _ (by assumption)).mono ?_; rintro e wz ⟨rfl, rfl⟩)
    all_goals (go_ret; exact ⟨ret_int (by unfold stpZ; rw [HD.out]; first | (split <;> split <;> omega) | (split <;> omega)), rfl⟩)
theorem swt_yes {a b : Int} (h : stpZ a b = 0 ∨ (3 ≤ stpZ a b ∧ stpZ a b ≤ 5)) : swt a b = true := by
  unfold swt; rcases h with h | ⟨h1, h2⟩
  · rw [decide_eq_true h]; rfl
  · rw [decide_eq_true h1, decide_eq_true h2]; simp
theorem swt_no {a b : Int} (h : ¬ stpZ a b = 0) (h2 : ¬ (3 ≤ stpZ a b ∧ stpZ a b ≤ 5)) : swt a b = false := by
  unfold swt; rw [decide_eq_false h, ← Bool.decide_and, decide_eq_false h2]; rfl
attribute [local irreducible] stpZ in
theorem impl_Sweet (a b : Int) (w : World) (ha : p60 a) (hb : p60 b) :
    Calls Try.prog 108 #[.int .i64 a, .int .i64 b] w fun e w' => e = .returned (.bool (swt a b)) ∧ w = w' := by
  have hr := stpZ_rng a b
  by_cases h0 : stpZ a b = 0
  · have q0 : (stpZ a b == 0) = true := by simpa using h0
    have HV := Lib.hid (swt_yes (Or.inl h0))
    clear h0
    go_enter Try.func108, Try.ntmps108
    go_wp2_with fail
    refine (impl_Steps a b _ ha hb).mono ?_
    rintro e wz ⟨rfl, rfl⟩
    go_wp2
    go_ret
    exact ⟨ret_bool HV.out.symm, rfl⟩
  · have q0 : (stpZ a b == 0) = false := by simpa using h0
    by_cases h3 : 3 ≤ stpZ a b
    · by_cases h5 : stpZ a b ≤ 5
      · have HV := Lib.hid (swt_yes (Or.inr ⟨h3, h5⟩))
        clear h0
        go_enter Try.func108, Try.ntmps108
        go_wp2_with fail
        refine (impl_Steps a b _ ha hb).mono ?_
        rintro e wz ⟨rfl, rfl⟩
        go_wp2
        go_ret
        exact ⟨ret_bool (by rw [HV.out] <;> first | rfl | (simp; omega)), rfl⟩
      · have HV := Lib.hid (swt_no h0 (fun h => h5 h.2))
        clear h0
        go_enter Try.func108, Try.ntmps108
        go_wp2_with fail
        refine (impl_Steps a b _ ha hb).mono ?_
        rintro e wz ⟨rfl, rfl⟩
        go_wp2
        go_ret
        exact ⟨ret_bool (by rw [HV.out] <;> first | rfl | (simp; omega)), rfl⟩
    · have HV := Lib.hid (swt_no h0 (fun h => h3 h.1))
      clear h0
      go_enter Try.func108, Try.ntmps108
      go_wp2_with fail
      refine (impl_Steps a b _ ha hb).mono ?_
      rintro e wz ⟨rfl, rfl⟩
      go_wp2
      go_ret
      exact ⟨ret_bool (by rw [HV.out] <;> first | rfl | (simp; omega)), rfl⟩
attribute [local irreducible] stpZ in
theorem spec_Sweet (a b : Int) (w : World) (ha : p60 a) (hb : p60 b) :
    Calls Try.prog 63 #[.int .i64 a, .int .i64 b] w fun e w' => e = .returned (.bool (swt a b)) ∧ w = w' := by
  have hr := stpZ_rng a b
  by_cases h0 : stpZ a b = 0
  · have q0 : (stpZ a b == 0) = true := by simpa using h0
    have HV := Lib.hid (swt_yes (Or.inl h0))
    clear h0
    go_enter Try.func63, Try.ntmps63
    go_wp2_with fail
    refine (spec_Steps a b _ ha hb).mono ?_
    rintro e wz ⟨rfl, rfl⟩
    go_wp2
    go_ret
    exact ⟨ret_bool HV.out.symm, rfl⟩
  · have q0 : (stpZ a b == 0) = false := by simpa using h0
    by_cases h3 : 3 ≤ stpZ a b ∧ stpZ a b ≤ 5
    · have HV := Lib.hid (swt_yes (Or.inr h3))
      clear h0
      go_enter Try.func63, Try.ntmps63
      go_wp2_with fail
      refine (spec_Steps a b _ ha hb).mono ?_
      rintro e wz ⟨rfl, rfl⟩
      go_wp2_with (go_at_call 93; refine (in_yes _ _ _ _ h3).mono ?_; rintro e wz ⟨rfl, rfl⟩)
      go_ret
      exact ⟨ret_bool HV.out.symm, rfl⟩
    · have HV := Lib.hid (swt_no h0 h3)
      clear h0
      go_enter Try.func63, Try.ntmps63
      go_wp2_with fail
      refine (spec_Steps a b _ ha hb).mono ?_
      rintro e wz ⟨rfl, rfl⟩
      go_wp2_with (go_at_call 93; refine (in_no _ _ _ _ h3).mono ?_; rintro e wz ⟨rfl, rfl⟩)
      go_ret
      exact ⟨ret_bool HV.out.symm, rfl⟩
/-- Sweet with all of the first k. -/
def swAll (l : List Int) (p : Int) : Nat → Bool
  | 0 => true
  | k + 1 => swAll l p k && swt (gt l k) p
theorem swAll_iff {l : List Int} {p : Int} : ∀ n, swAll l p n = false ↔ ∃ k, k < n ∧ swt (gt l k) p = false
  | 0 => by simp [swAll]
  | n + 1 => by
    unfold swAll
    rw [Bool.and_eq_false_iff, swAll_iff n]
    constructor
    · rintro (⟨k, hk, h⟩ | h)
      · exact ⟨k, by omega, h⟩
      · exact ⟨n, by omega, h⟩
    · rintro ⟨k, hk, h⟩
      by_cases e : k = n
      · subst e; exact Or.inr h
      · exact Or.inl ⟨k, by omega, h⟩
theorem swAll_no {l : List Int} {p : Int} {k n : Nat} (hk : k < n) (h : swt (gt l k) p = false) : swAll l p n = false := (swAll_iff n).2 ⟨k, hk, h⟩
attribute [local irreducible] gt swt swAll in
set_option maxHeartbeats 400000 in
theorem sweetWith_any (A : Option Addr) (n c : Nat) (l : List Int) (p : Int) (w : World) (hrd : RdI w A l) (hn : n ≤ l.length) (hl : l.length ≤ 1000000) (hp : p60 p) (hr : ∀ i, i < l.length → p60 (gt l i)) :
    Calls Try.prog 92 #[.slice A n c, .int .i64 p] w fun e w' => e = .returned (.bool (swAll l p n)) ∧ w = w' := by
  go_enter Try.func92, Try.ntmps92
  go_wp2
  go_loop [9] (fun q => ∃ k : Nat, k ≤ n ∧ q = .int .i64 k ∧ swAll l p k = true) (fun q => n - (intOf q).toNat)
  case atStart => exact ⟨0, by omega, rfl, by unfold swAll; rfl⟩
  case round =>
    obtain ⟨k, hk, rfl, hM⟩ := hrel
    have HM := Lib.hid hM
    clear hM
    by_cases hlt : k < n
    · obtain ⟨b1, o1, rfl, _, hc1⟩ := hrd (by omega)
      have h1 := hc1 k (by omega)
      have hq := hr k (by omega)
      have HS := Lib.hid (show swAll l p (k + 1) = (swAll l p k && swt (gt l k) p) by rw [swAll])
      clear hc1 hrd hr
      go_wp2_with fail
      refine (impl_Sweet _ _ _ hq hp).mono ?_
      rintro e wz ⟨rfl, rfl⟩
      cases hs : swt (gt l k) p
      · have HF := Lib.hid (swAll_no hlt hs)
        clear hs
        go_wp2
        go_ret
        exact ⟨ret_bool HF.out.symm, rfl⟩
      · have HG := Lib.hid (show swAll l p (k + 1) = true by rw [HS.out, HM.out, hs]; rfl)
        clear hs
        go_wp2
        go_round
        case rel => exact ⟨k + 1, by omega, by go_num, HG.out⟩
        case measure => simp [intOf]; omega
    · obtain rfl : k = n := by omega
      go_wp2
      go_ret
      exact ⟨ret_bool HM.out.symm, rfl⟩
def harI (l : List Int) : Nat → Bool
  | 0 => false
  | i + 1 => harI l i || !swAll l (gt l i) i
def hsI (l : List Int) (i : Nat) (f : Bool) : Nat → Bool
  | 0 => f
  | j + 1 => hsI l i f j || !swt (gt l i) (gt l j)
def hsF (l : List Int) : Nat → Bool
  | 0 => false
  | i + 1 => hsI l i (hsF l i) i
theorem harI_iff {l : List Int} : ∀ n, harI l n = true ↔ ∃ i, i < n ∧ ∃ j, j < i ∧ swt (gt l j) (gt l i) = false
  | 0 => by simp [harI]
  | n + 1 => by
    unfold harI
    rw [Bool.or_eq_true, harI_iff n, Bool.not_eq_true', swAll_iff]
    constructor
    · rintro (⟨i, hi, h⟩ | h)
      · exact ⟨i, by omega, h⟩
      · exact ⟨n, by omega, h⟩
    · rintro ⟨i, hi, h⟩
      by_cases e : i = n
      · subst e; exact Or.inr h
      · exact Or.inl ⟨i, by omega, h⟩
theorem hsI_iff {l : List Int} {i : Nat} {f : Bool} : ∀ n, hsI l i f n = true ↔ f = true ∨ ∃ j, j < n ∧ swt (gt l i) (gt l j) = false
  | 0 => by simp [hsI]
  | n + 1 => by
    unfold hsI
    rw [Bool.or_eq_true, hsI_iff n, Bool.not_eq_true']
    constructor
    · rintro ((h | ⟨j, hj, h⟩) | h)
      · exact Or.inl h
      · exact Or.inr ⟨j, by omega, h⟩
      · exact Or.inr ⟨n, by omega, h⟩
    · rintro (h | ⟨j, hj, h⟩)
      · exact Or.inl (Or.inl h)
      · by_cases e : j = n
        · subst e; exact Or.inr h
        · exact Or.inl (Or.inr ⟨j, by omega, h⟩)
theorem hsF_iff {l : List Int} : ∀ n, hsF l n = true ↔ ∃ i, i < n ∧ ∃ j, j < i ∧ swt (gt l i) (gt l j) = false
  | 0 => by simp [hsF]
  | n + 1 => by
    unfold hsF
    rw [hsI_iff, hsF_iff n]
    constructor
    · rintro (⟨i, hi, h⟩ | h)
      · exact ⟨i, by omega, h⟩
      · exact ⟨n, by omega, h⟩
    · rintro ⟨i, hi, h⟩
      by_cases e : i = n
      · subst e; exact Or.inr h
      · exact Or.inl ⟨i, by omega, h⟩
theorem har_eq (l : List Int) (n : Nat) : harI l n = hsF l n := by
  rw [Bool.eq_iff_iff, harI_iff, hsF_iff]
  constructor
  · rintro ⟨i, hi, j, hj, h⟩; exact ⟨i, hi, j, hj, by rw [swt_comm]; exact h⟩
  · rintro ⟨i, hi, j, hj, h⟩; exact ⟨i, hi, j, hj, by rw [swt_comm]; exact h⟩
attribute [local irreducible] gt swt swAll harI in
set_option maxHeartbeats 400000 in
theorem isHarsh_any (A : Option Addr) (c : Nat) (l : List Int) (w : World) (hrd : RdI w A l) (hc : l.length ≤ c) (hcm : c ≤ maxLen) (hl : l.length ≤ 1000000) (hr : ∀ i, i < l.length → p60 (gt l i)) :
    Calls Try.prog 60 #[.slice A l.length c] w fun e w' => e = .returned (.bool (harI l l.length)) ∧ w = w' := by
  have HR := Lib.hid hr
  unfold maxLen at hcm
  clear hr
  go_enter Try.func60, Try.ntmps60
  go_wp2
  go_loop [7] (fun q => ∃ k : Nat, k ≤ l.length ∧ q = .int .i64 k ∧ harI l k = false) (fun q => l.length - (intOf q).toNat)
  case atStart => exact ⟨0, by omega, rfl, by unfold harI; rfl⟩
  case round =>
    obtain ⟨k, hk, rfl, hM⟩ := hrel
    have HM := Lib.hid hM
    clear hM
    by_cases hlt : k < l.length
    · have hrd2 := hrd
      obtain ⟨b1, o1, rfl, _, hc1⟩ := hrd (by omega)
      have h1 := hc1 k hlt
      have h0a : (k : Int) ≤ (c : Int) := by omega
      have h0b : (0 : Int) ≤ (k : Int) := by omega
      have HS := Lib.hid (show harI l (k + 1) = (harI l k || !swAll l (gt l k) k) by rw [harI])
      have HW := Lib.hid (fun n => (harI_iff (l := l) n))
      clear hc1 hrd
      go_wp2_with fail
      refine (sweetWith_any _ _ _ l _ _ hrd2 (by omega) hl (HR.out k hlt) HR.out).mono ?_
      rintro e wz ⟨rfl, rfl⟩
      cases hs : swAll l (gt l k) k
      · have HF := Lib.hid (show harI l l.length = true from (harI_iff _).2 (by obtain ⟨j, hj, h⟩ := (swAll_iff _).1 hs; exact ⟨k, hlt, j, hj, h⟩))
        clear hs
        go_wp2
        go_ret
        exact ⟨ret_bool HF.out.symm, rfl⟩
      · have HG := Lib.hid (show harI l (k + 1) = false by rw [HS.out, HM.out, hs]; rfl)
        clear hs
        go_wp2
        go_round
        case rel => exact ⟨k + 1, by omega, by go_num, HG.out⟩
        case measure => simp [intOf]; omega
    · obtain rfl : k = l.length := by omega
      go_wp2
      go_ret
      exact ⟨ret_bool HM.out.symm, rfl⟩
end Go.Proofs.Ytkbceojeahninaa
