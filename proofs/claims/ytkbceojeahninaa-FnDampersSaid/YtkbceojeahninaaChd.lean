/- What sounds harsh is no chord. -/
import Derived.Test.YtkbceojeahninaaSweet
import Derived.Test.YtkbceojeahninaaTune
namespace Go.Proofs.Ytkbceojeahninaa
open Go.ChangeShapes Go.WideShapes Go.ChangeAt Go.RowKit
set_option linter.unusedVariables false
attribute [local irreducible] gt swt in
set_option maxHeartbeats 800000 in
theorem chord_ok (A : Option Addr) (c : Nat) (l : List Int) (w : World) (hrd : RdI w A l) (hl : l.length ≤ 1000000) (hr : ∀ i, i < l.length → p60 (gt l i)) :
    Calls Try.prog 62 #[.slice A l.length c, .int .i64 1] w fun e w' => ∃ x, e = .returned (.bool x) ∧ w = w' := by
  have HR := Lib.hid hr
  clear hr
  go_enter Try.func62, Try.ntmps62
  go_wp2
  go_loop [5] (fun q => ∃ k : Nat, k ≤ l.length ∧ q = .int .i64 k) (fun q => l.length - (intOf q).toNat)
  case atStart => exact ⟨0, by omega, rfl⟩
  case round =>
    obtain ⟨k, hk, rfl⟩ := hrel
    by_cases hlt : k < l.length
    · obtain ⟨b1, o1, rfl, _, hc1⟩ := hrd (by omega)
      have h1 := hc1 k hlt
      have hq : 0 ≤ gt l k ∧ gt l k ≤ 60 := HR.out k hlt
      have h0a : (k : Int) < (l.length : Int) := by omega
      have h0b : (0 : Int) ≤ (k : Int) := by omega
      clear hc1 hrd
      go_wp2_with fail
      refine (in_yes _ _ _ _ hq).mono ?_
      rintro e wz ⟨rfl, rfl⟩
      go_wp2
      go_round
      case rel => exact ⟨k + 1, by omega, by go_num⟩
      case measure => simp [intOf]; omega
    · by_cases h8 : (1 : Int) ≤ (l.length : Int) ∧ (l.length : Int) ≤ 8
      · go_wp2_with fail
        refine (in_yes _ _ _ _ h8).mono ?_
        rintro e wz ⟨rfl, rfl⟩
        go_wp2
        go_ret
        exact ⟨_, rfl, rfl⟩
      · go_wp2_with fail
        refine (in_no _ _ _ _ h8).mono ?_
        rintro e wz ⟨rfl, rfl⟩
        go_wp2
        go_ret
        exact ⟨_, rfl, rfl⟩
theorem chd_step {l : List Int} {i j : Nat} (h : ∀ a, a < i → ∀ b, b < a → swt (gt l a) (gt l b) = true) (h2 : ∀ b, b < i → swt (gt l i) (gt l b) = true) : ∀ a, a < i + 1 → ∀ b, b < a → swt (gt l a) (gt l b) = true := by
  intro a ha b hb
  by_cases e : a = i
  · subst e; exact h2 b hb
  · exact h a (by omega) b hb
theorem chd_in {l : List Int} {i j : Nat} (h : ∀ b, b < j → swt (gt l i) (gt l b) = true) (h2 : swt (gt l i) (gt l j) = true) : ∀ b, b < j + 1 → swt (gt l i) (gt l b) = true := by
  intro b hb
  by_cases e : b = j
  · subst e; exact h2
  · exact h b (by omega)
theorem chd_end {l : List Int} (hs : hsF l l.length = true) (h : ∀ a, a < l.length → ∀ b, b < a → swt (gt l a) (gt l b) = true) : False := by
  obtain ⟨i, hi, j, hj, e⟩ := (hsF_iff _).1 hs
  rw [h i hi j hj] at e
  cases e
attribute [local irreducible] gt swt hsF in
set_option maxHeartbeats 800000 in
theorem chord_no (A : Option Addr) (c : Nat) (l : List Int) (w : World) (hrd : RdI w A l) (hl : l.length ≤ 1000000) (hr : ∀ i, i < l.length → p60 (gt l i)) (hs : hsF l l.length = true) :
    Calls Try.prog 25 #[.slice A l.length c] w fun e w' => e = .returned (.bool false) ∧ Below w.heap.size w w' := by
  have HR := Lib.hid hr
  have HE := Lib.hid (chd_end hs)
  go_enter Try.func25, Try.ntmps25
  go_wp2_with fail
  refine (chord_ok _ _ _ _ hrd hl hr).mono ?_
  rintro e wz ⟨x, rfl, rfl⟩
  clear hr hs
  cases x
  · go_wp2
    go_ret
    exact ⟨rfl, Below.refl _ _⟩
  · go_wp2
    go_loopw [3] (fun q wr => ∃ i : Nat, i ≤ l.length ∧ q = .int .i64 i ∧ (∀ a, a < i → ∀ b, b < a → swt (gt l a) (gt l b) = true) ∧ Below w.heap.size w wr) (fun q _ => l.length - (intOf q).toNat)
    case atStart => exact ⟨0, by omega, rfl, (fun _ h => by omega), Below.refl _ _⟩
    case round =>
      obtain ⟨i, hi, rfl, hM, hb⟩ := hrel
      have HM := Lib.hid hM
      clear hM
      obtain ⟨wo, hwo⟩ : ∃ wo, wo = wr := ⟨wr, rfl⟩
      subst hwo
      by_cases hli : i < l.length
      · have h0a : (i : Int) < (l.length : Int) := by omega
        have h0b : (0 : Int) ≤ (i : Int) := by omega
        go_wp2
        go_loopw [4] (fun q wt => ∃ j : Nat, j ≤ i ∧ q = .int .i64 j ∧ (∀ b, b < j → swt (gt l i) (gt l b) = true) ∧ Below w.heap.size w wt) (fun q _ => i - (intOf q).toNat)
        case atStart => exact ⟨0, by omega, rfl, (fun _ h => by omega), hb⟩
        case round =>
          obtain ⟨j, hj, rfl, hN, hbj⟩ := hrel
          have HN := Lib.hid hN
          clear hN
          by_cases hlj : j < i
          · obtain ⟨b, o, rfl, lb, hcs⟩ := hrd (by omega)
            have p1 := (hbj.cell (p := ⟨b, o + i, none⟩) lb).trans (hcs i hli)
            have p2 := (hbj.cell (p := ⟨b, o + j, none⟩) lb).trans (hcs j (by omega))
            have u1 := HR.out i hli
            have u2 := HR.out j (by omega)
            have h0c : (0 : Int) ≤ (j : Int) := by omega
            have h0d : (j : Int) < (l.length : Int) := by omega
            clear hcs
            cases hsw : swt (gt l i) (gt l j)
            · go_wp2_with fail
              go_quiet ((go_at_call 63; exact quiet_u (spec_Sweet _ _ _ u1 u2)))
              go_wp2
              go_ret
              exact ⟨rfl, bel_drewN hbj _⟩
            · have HG := Lib.hid (chd_in HN.out hsw)
              go_wp2_with fail
              go_quiet ((go_at_call 63; exact quiet_u (spec_Sweet _ _ _ u1 u2)))
              go_wp2
              go_roundw
              case rel => exact ⟨j + 1, by omega, by go_num, HG.out, bel_drewN hbj _⟩
              case measure => simp [intOf]; omega
          · obtain rfl : j = i := by omega
            have HG := Lib.hid (chd_step (j := 0) HM.out HN.out)
            go_wp2
            go_roundw
            case rel => exact ⟨j + 1, by omega, by go_num, HG.out, hbj⟩
            case measure => simp [intOf]; omega
      · obtain rfl : i = l.length := by omega
        exact (HE.out HM.out).elim
end Go.Proofs.Ytkbceojeahninaa
