/- Whether a list is an order of the numbers up to n. -/
import Derived.Test.YtkbceojeahninaaBools
import Derived.Test.YtkbceojeahninaaIn
namespace Go.Proofs.Ytkbceojeahninaa
open Go.ChangeShapes Go.WideShapes Go.ChangeAt Go.RowKit
set_option linter.unusedVariables false
def prmAt (l : List Int) (n : Nat) (i : Nat) : Prop := (0 ≤ gt l i ∧ gt l i < (n : Int)) ∧ ∀ j, j < i → gt l j ≠ gt l i
def prmTo (l : List Int) (n : Nat) (k : Nat) : Prop := ∀ i, i < k → prmAt l n i
def prmP (l : List Int) (n : Nat) : Prop := l.length = n ∧ prmTo l n l.length
noncomputable instance prmDec (l : List Int) (n : Nat) : Decidable (prmP l n) := Classical.propDecidable _
noncomputable def prmB (l : List Int) (n : Nat) : Bool := decide (prmP l n)
theorem prm_len {l : List Int} {n : Nat} (h : l.length ≠ n) : prmB l n = false := decide_eq_false fun hp => h hp.1
theorem prm_no {l : List Int} {n k : Nat} (hk : k < l.length) (h : ¬ prmAt l n k) : prmB l n = false := decide_eq_false fun hp => h (hp.2 k hk)
theorem prm_yes {l : List Int} {n : Nat} (hl : l.length = n) (h : prmTo l n l.length) : prmB l n = true := decide_eq_true ⟨hl, h⟩
theorem prm_succ {l : List Int} {n k : Nat} (h : prmTo l n k) (hk : prmAt l n k) : prmTo l n (k + 1) := by
  intro j hj
  by_cases e : j = k
  · subst e; exact hk
  · exact h j (by omega)
/-- Which numbers were seen among the first k. -/
def seenL (l : List Int) (k : Nat) (L : List Bool) : Prop := ∀ x, x < L.length → (gbo L x = true ↔ ∃ j, j < k ∧ gt l j = (x : Int))
theorem seen_zero (l : List Int) (n : Nat) : seenL l 0 (List.replicate n false) := by
  intro x _
  rw [gbo_rep]
  exact ⟨(fun h => by cases h), fun ⟨j, hj, _⟩ => by omega⟩
theorem seen_succ {l : List Int} {k y : Nat} {L : List Bool} (h : seenL l k L) (hy : y < L.length) (he : gt l k = (y : Int)) : seenL l (k + 1) (L.set y true) := by
  intro x hx
  rw [List.length_set] at hx
  rw [gbo_set _ _ _ _ hy]
  by_cases e : x = y
  · rw [if_pos e]
    exact ⟨fun _ => ⟨k, by omega, by rw [he, e]⟩, fun _ => rfl⟩
  · rw [if_neg e, h x hx]
    constructor
    · rintro ⟨j, hj, hh⟩; exact ⟨j, by omega, hh⟩
    · rintro ⟨j, hj, hh⟩
      by_cases q : j = k
      · subst q; rw [he] at hh; omega
      · exact ⟨j, by omega, hh⟩
theorem seen_yes {l : List Int} {n k y : Nat} {L : List Bool} (h : seenL l k L) (hy : y < L.length) (he : gt l k = (y : Int)) (hs : gbo L y = true) : ¬ prmAt l n k := by
  intro hp
  obtain ⟨j, hj, hh⟩ := (h y hy).1 hs
  exact hp.2 j hj (by rw [hh, he])
theorem seen_no {l : List Int} {n k y : Nat} {L : List Bool} (h : seenL l k L) (hy : y < L.length) (he : gt l k = (y : Int)) (hn : y < n) (hs : gbo L y = false) : prmAt l n k := by
  refine ⟨by rw [he]; omega, fun j hj hh => ?_⟩
  have := (h y hy).2 ⟨j, hj, by rw [hh, he]⟩
  rw [hs] at this; cases this
attribute [local irreducible] gt gbo in
set_option maxHeartbeats 1600000 in
theorem perm_any (A : Option Addr) (c : Nat) (l : List Int) (n : Nat) (w : World) (hrd : RdI w A l) (hl : l.length ≤ 1000000000) :
    Calls Try.prog 79 #[.slice A l.length c, .int .i64 (n : Int)] w fun e w' => e = .returned (.bool (prmB l n)) ∧ Below w.heap.size w w' := by
  by_cases hln : l.length = n
  · subst hln
    have HC := Lib.hid (fun h => prm_yes (l := l) rfl h)
    have HN := Lib.hid (fun (k : Nat) (hk : k < l.length) h => prm_no (n := l.length) hk h)
    have HZ := Lib.hid (seen_zero l l.length)
    go_enter Try.func79, Try.ntmps79
    go_wp2_with (at_make; refine make_bools rfl _ _ 115 rfl 4 Try.underlying115 (by kernel_rfl) w.heap.size l.length rfl rfl hl (Nat.le_refl _) ?_; intro w1 hown hb1 hz1)
    go_loopw [16] (fun i wr => ∃ (k : Nat) (L : List Bool), k ≤ l.length ∧ i = .int .i64 k ∧ L.length = l.length ∧ seenL l k L ∧ prmTo l l.length k ∧ OwnT 4 w.heap.size wr (.slice (some ⟨w.heap.size, 0, none⟩) l.length l.length) L ∧ Below w.heap.size w wr) (fun i _ => l.length - (intOf i).toNat)
    case atStart => exact ⟨0, _, by omega, rfl, List.length_replicate, HZ.out, fun _ h => by omega, hown, hb1⟩
    case round =>
      clear hown
      obtain ⟨k, L, hk, rfl, hL, hS, hP, ho, hb⟩ := hrel
      have HL := Lib.hid hL
      have HS := Lib.hid hS
      have HP := Lib.hid hP
      have hL1 : L.length ≤ l.length := by omega
      have hL2 : l.length ≤ L.length := by omega
      clear hL hS hP
      by_cases hlt : k < l.length
      · obtain ⟨b, o, rfl, lb, hcl⟩ := hrd (by omega)
        have k1 := (hb.cell (p := ⟨b, o + k, none⟩) lb).trans (hcl k hlt)
        clear hcl
        by_cases hx0 : gt l k < 0
        · have HF := Lib.hid (HN.out k hlt (fun h => by have := h.1.1; omega))
          go_wp2
          go_ret
          exact ⟨ret_bool HF.out.symm, hb⟩
        · by_cases hx1 : gt l k < (l.length : Int)
          · obtain ⟨y, hy⟩ : ∃ y : Nat, gt l k = (y : Int) := ⟨(gt l k).toNat, by omega⟩
            have hyl : y < L.length := by omega
            have hyl2 : y < l.length := by omega
            obtain ⟨g, he, _, hgl, hcg, hfg⟩ := ho.head (by omega)
            injection he with he
            injection he with he
            subst he
            have k2 := hcg y hyl
            have f2 := hfg y
            rw [hy] at k1
            have HY := Lib.hid hy
            have hst := ho.stored y true
            have HO := Lib.hid hst.1
            have HB := Lib.hid (hb.trans (grown_Below hst.2 hb.size (fun q hq => by injection hq with hq; omega)))
            clear hcg hfg hx0 hx1 hy hst
            cases hs : gbo L y
            · have HA := Lib.hid (prm_succ HP.out (seen_no (n := l.length) HS.out hyl HY.out hyl2 hs))
              have HT := Lib.hid (seen_succ HS.out hyl HY.out)
              rw [hs] at k2
              clear hs ho hb
              go_wp2
              go_roundw
              case rel => exact ⟨k + 1, _, by omega, by go_num, by rw [List.length_set]; exact HL.out, HT.out, HA.out, HO.out, HB.out⟩
              case measure => simp [intOf]; omega
            · have HF := Lib.hid (HN.out k hlt (seen_yes HS.out hyl HY.out hs))
              rw [hs] at k2
              clear hs
              go_wp2
              go_ret
              exact ⟨ret_bool HF.out.symm, hb⟩
          · have HF := Lib.hid (HN.out k hlt (fun h => by have := h.1.2; omega))
            have hx2 : (l.length : Int) ≤ gt l k := by omega
            go_wp2
            go_ret
            exact ⟨ret_bool HF.out.symm, hb⟩
      · obtain rfl : k = l.length := by omega
        have HF := Lib.hid (HC.out HP.out)
        go_wp2
        go_ret
        exact ⟨ret_bool HF.out.symm, hb⟩
  · have HF := Lib.hid (prm_len hln)
    have hq : ((l.length : Int) == (n : Int)) = false := by simp; omega
    have hq2 : ((l.length : Int) != (n : Int)) = true := by simp; omega
    have hq3 : decide ((l.length : Int) = (n : Int)) = false := by simp; omega
    have hq4 : decide (l.length = n) = false := by simp; omega
    clear hln
    go_enter Try.func79, Try.ntmps79
    go_wp2
    go_ret
    exact ⟨ret_bool HF.out.symm, Below.refl _ _⟩
end Go.Proofs.Ytkbceojeahninaa
