/- The laws' own sameInts and btoi. -/
import Derived.Test.YtkbceojeahninaaLawH
namespace Go.Proofs.Ytkbceojeahninaa
open Go.ChangeShapes Go.WideShapes Go.ChangeAt Go.RowKit
set_option linter.unusedVariables false
theorem gt_ext {a b : List Int} (hl : a.length = b.length) (h : ∀ i, i < a.length → gt a i = gt b i) : a = b := by
  apply List.ext_getElem hl
  intro i h1 h2
  have := h i h1
  simpa [gt, h1, h2] using this
def smL (a b : List Int) : Bool := decide (a = b)
theorem sl_len {a b : List Int} (h : a.length ≠ b.length) : smL a b = false := decide_eq_false fun e => h (by rw [e])
theorem sl_at {a b : List Int} {k : Nat} (h : gt a k ≠ gt b k) : smL a b = false := decide_eq_false fun e => h (by rw [e])
theorem sl_all {a b : List Int} (hl : a.length = b.length) (h : ∀ i, i < a.length → gt a i = gt b i) : smL a b = true := decide_eq_true (gt_ext hl h)
theorem sl_step {a b : List Int} {k : Nat} (h : ∀ i, i < k → gt a i = gt b i) (hk : gt a k = gt b k) : ∀ i, i < k + 1 → gt a i = gt b i := by
  intro i hi
  by_cases e : i = k
  · subst e; exact hk
  · exact h i (by omega)
attribute [local irreducible] gt in
set_option maxHeartbeats 800000 in
theorem sameL_any (A B : Option Addr) (c d : Nat) (a b : List Int) (w : World) (hra : RdI w A a) (hrb : RdI w B b) (hla : a.length ≤ 1000000000) (hlb : b.length ≤ 1000000000) :
    Calls Try.prog 26 #[.slice A a.length c, .slice B b.length d] w fun e w' => e = .returned (.bool (smL a b)) ∧ Below w.heap.size w w' := by
  by_cases hl : a.length = b.length
  · have HL := Lib.hid hl
    have hq : ((a.length : Int) == (b.length : Int)) = true := by simp; omega
    have hq2 : ((a.length : Int) != (b.length : Int)) = false := by simp; omega
    have hq3 : decide ((a.length : Int) = (b.length : Int)) = true := by simp; omega
    have hq4 : decide (a.length = b.length) = true := by simpa using hl
    clear hl
    go_enter Try.func26, Try.ntmps26
    go_wp2
    go_loopw [5] (fun i wr => ∃ k : Nat, k ≤ a.length ∧ i = .int .i64 k ∧ (∀ i, i < k → gt a i = gt b i) ∧ Below w.heap.size w wr) (fun i _ => a.length - (intOf i).toNat)
    case atStart => exact ⟨0, by omega, rfl, (fun _ h => by omega), Below.refl _ _⟩
    case round =>
      obtain ⟨k, hk, rfl, hM, hb⟩ := hrel
      have HM := Lib.hid hM
      clear hM
      by_cases hlt : k < a.length
      · have hltb : k < b.length := by have := HL.out; omega
        obtain ⟨b1, o1, rfl, l1, hc1⟩ := hra (by omega)
        obtain ⟨b2, o2, rfl, l2, hc2⟩ := hrb (by omega)
        have k1 := (hb.cell (p := ⟨b1, o1 + k, none⟩) l1).trans (hc1 k hlt)
        have k2 := (hb.cell (p := ⟨b2, o2 + k, none⟩) l2).trans (hc2 k hltb)
        have h0a : (0 : Int) ≤ (k : Int) := by omega
        have h0b : (k : Int) < (a.length : Int) := by omega
        have h0c : (k : Int) < (b.length : Int) := by omega
        clear hc1 hc2 hra hrb
        by_cases he : gt a k = gt b k
        · have HE := Lib.hid (sl_step HM.out he)
          have hq : (gt a k != gt b k) = false := by simpa using he
          have hq' : (gt a k == gt b k) = true := by simpa using he
          clear he
          go_wp2_with fail
          go_quiet (fail)
          go_wp2
          go_roundw
          case rel => exact ⟨k + 1, by omega, by go_num, HE.out, bel_drewN hb _⟩
          case measure => simp [intOf]; omega
        · have HE := Lib.hid (sl_at he)
          have hq : (gt a k != gt b k) = true := by simpa using he
          have hq' : (gt a k == gt b k) = false := by simpa using he
          clear he
          go_wp2_with fail
          go_quiet (fail)
          go_wp2
          go_ret
          exact ⟨ret_bool HE.out.symm, bel_drewN hb _⟩
      · obtain rfl : k = a.length := by omega
        go_wp2
        go_ret
        exact ⟨ret_bool (sl_all HL.out HM.out).symm, hb⟩
  · have HE := Lib.hid (sl_len hl)
    have hq : ((a.length : Int) == (b.length : Int)) = false := by simp; omega
    have hq2 : ((a.length : Int) != (b.length : Int)) = true := by simp; omega
    have hq3 : decide ((a.length : Int) = (b.length : Int)) = false := by simp; omega
    have hq4 : decide (a.length = b.length) = false := by simpa using hl
    clear hl
    go_enter Try.func26, Try.ntmps26
    go_wp2
    go_ret
    exact ⟨ret_bool HE.out.symm, Below.refl _ _⟩
end Go.Proofs.Ytkbceojeahninaa
