/- SameAround: whether a tune moved around the turn is the same tune. -/
import Derived.Test.YtajlopigpppeaaaAround
namespace Go.Proofs.Ytajlopigpppeaaa
open Go.ChangeShapes Go.WideShapes Go.ChangeAt Go.RowKit
set_option linter.unusedVariables false
def eqAt (a b : List (Int × Int)) (k : Nat) : Prop := tm a k = tm b k ∧ pt a k = pt b k
def eqAll (a b : List (Int × Int)) : Prop := ∀ k, k < a.length → eqAt a b k
noncomputable instance eqAllDec (a b : List (Int × Int)) : Decidable (eqAll a b) := Classical.propDecidable _
noncomputable def eqB (a b : List (Int × Int)) : Bool := decide (eqAll a b)
theorem eqB_no {a b : List (Int × Int)} {k : Nat} (hk : k < a.length) (h : ¬ eqAt a b k) : eqB a b = false := decide_eq_false fun hh => h (hh k hk)
theorem eqB_yes {a b : List (Int × Int)} {k : Nat} (hk : k = a.length) (h : ∀ j, j < k → eqAt a b j) : eqB a b = true := decide_eq_true fun j hj => h j (by omega)
theorem eq_succ {p : Nat → Prop} {k : Nat} (h : ∀ i, i < k → p i) (hk : p k) : ∀ i, i < k + 1 → p i := by
  intro i hi
  by_cases e : i = k
  · rw [e]; exact hk
  · exact h i (by omega)
noncomputable def saB (l : List (Int × Int)) (n s : Int) : Bool := aroB l n s && eqB l (aroL l n s)
theorem saB_no {l : List (Int × Int)} {n s : Int} (h : aroB l n s = false) : saB l n s = false := by unfold saB; rw [h]; rfl
theorem saB_at {l : List (Int × Int)} {n s : Int} (h : aroB l n s = true) : saB l n s = eqB l (aroL l n s) := by unfold saB; rw [h]; rfl
theorem aroL_full {l : List (Int × Int)} {n s : Int} (h : aroB l n s = true) : (aroL l n s).length = l.length ∧ l.length ≤ 40 := by
  have h1 := of_decide_eq_true h
  refine ⟨?_, tune_lenA h1.1⟩
  rw [(aro_yes h1).2]
  exact h1.2.2.2
attribute [local irreducible] tm pt eqB aroL aroB in
set_option maxHeartbeats 1600000 in
theorem sameNotes_any (A B : Option Addr) (c d : Nat) (a b : List (Int × Int)) (w : World) (hra : RdN w A a) (hrb : RdN w B b) (hla : a.length ≤ 1000000000) (hlb : b.length ≤ 1000000000) (hlen : a.length = b.length) :
    Calls Try.prog 68 #[.slice A a.length c, .slice B b.length d] w fun e w' => e = .returned (.bool (eqB a b)) ∧ Below w.heap.size w w' := by
  have hq : ((a.length : Int) != (b.length : Int)) = false := by simp; omega
  have HL := Lib.hid hlen
  clear hlen
  go_enter Try.func68, Try.ntmps68
  go_wp2
  go_loopw [14] (fun i wr => ∃ k : Nat, k ≤ a.length ∧ i = .int .i64 k ∧ (∀ j, j < k → eqAt a b j) ∧ Below w.heap.size w wr) (fun i _ => a.length - (intOf i).toNat)
  case atStart => exact ⟨0, by omega, rfl, fun _ h => by omega, Below.refl _ _⟩
  case round =>
    obtain ⟨k, hk, rfl, hM, hb⟩ := hrel
    have HM := Lib.hid hM
    clear hM
    by_cases hlt : k < a.length
    · obtain ⟨b1, o1, rfl, lb1, hc1⟩ := hra (by omega)
      obtain ⟨b2, o2, rfl, lb2, hc2⟩ := hrb (by have := HL.out; omega)
      have k1 := (hb.cell (p := ⟨b1, o1 + k * 2, none⟩) lb1).trans (hc1 k hlt).1
      have k2 := (hb.cell (p := ⟨b1, o1 + k * 2 + 1, none⟩) lb1).trans (hc1 k hlt).2
      have k3 := (hb.cell (p := ⟨b2, o2 + k * 2, none⟩) lb2).trans (hc2 k (by have := HL.out; omega)).1
      have k4 := (hb.cell (p := ⟨b2, o2 + k * 2 + 1, none⟩) lb2).trans (hc2 k (by have := HL.out; omega)).2
      have m2 : b2 < wr.heap.size := Nat.lt_of_lt_of_le lb2 hb.size
      have h0a : (0 : Int) ≤ (k : Int) := by omega
      have h0b : (k : Int) < (a.length : Int) := by omega
      have h0c : (k : Int) < (b.length : Int) := by have := HL.out; omega
      have hbs := hb.size
      clear hc1 hc2
      go_upto_region 6 with fail
      obtain ⟨wb, hwb⟩ : ∃ W, W = wr.alloc (.cells #[.int .i64 (tm a k), .int .i64 (pt a k)] 42) := ⟨_, rfl⟩
      rw [← hwb]
      have x1 : wb.cell? ⟨wr.heap.size, 0, none⟩ = some (.int .i64 (tm a k)) := by rw [hwb]; simp [go_sem]
      have x2 : wb.cell? ⟨wr.heap.size, 1, none⟩ = some (.int .i64 (pt a k)) := by rw [hwb]; simp [go_sem]
      have hbw : Below wr.heap.size wr wb := by rw [hwb]; exact (Below.refl _ _).alloc (Nat.le_refl _) _
      have y1 := (hbw.cell (p := ⟨b2, o2 + k * 2, none⟩) m2).trans k3
      have y2 := (hbw.cell (p := ⟨b2, o2 + k * 2 + 1, none⟩) m2).trans k4
      have hbb : Below w.heap.size w wb := hb.trans (hbw.mono hbs)
      clear hwb
      by_cases e1 : tm a k = tm b k
      · by_cases e2 : pt a k = pt b k
        · have HE := Lib.hid (show eqAt a b k from ⟨e1, e2⟩)
          have q1 : (tm a k == tm b k) = true := by simpa using e1
          have q2 : (pt a k == pt b k) = true := by simpa using e2
          clear e1 e2
          go_quiet (fail)
          go_wp2
          go_roundw
          case rel => exact ⟨k + 1, by omega, by go_num, eq_succ HM.out HE.out, bel_drewN hbb _⟩
          case measure => simp [intOf]; omega
        · have HR := Lib.hid (eqB_no hlt (fun h : eqAt a b k => e2 h.2))
          have q1 : (tm a k == tm b k) = true := by simpa using e1
          have q2 : (pt a k == pt b k) = false := by simpa using e2
          clear e1 e2
          go_quiet (fail)
          go_wp2
          go_ret
          exact ⟨ret_bool HR.out.symm, bel_drewN hbb _⟩
      · have HR := Lib.hid (eqB_no hlt (fun h : eqAt a b k => e1 h.1))
        have q1 : (tm a k == tm b k) = false := by simpa using e1
        clear e1
        go_quiet (fail)
        go_wp2
        go_ret
        exact ⟨ret_bool HR.out.symm, bel_drewN hbb _⟩
    · have HR := Lib.hid (eqB_yes (show k = a.length by omega) HM.out)
      go_wp2
      go_ret
      exact ⟨ret_bool HR.out.symm, hb⟩
attribute [local irreducible] tm pt eqB aroL aroB in
set_option maxHeartbeats 1600000 in
theorem impl_SameAround (A : Option Addr) (c : Nat) (l : List (Int × Int)) (n s : Int) (w : World) (hrd : RdN w A l) (hl : l.length ≤ 1000000000) (hn : Rng n) (hs : Rng s) :
    Calls Try.prog 29 #[.slice A l.length c, .int .i64 n, .int .i64 s] w fun e w' => e = .returned (.bool (saB l n s)) ∧ Below w.heap.size w w' := by
  cases hB : aroB l n s
  · have HX := Lib.hid (saB_no hB)
    have HB := Lib.hid hB
    clear hB
    go_enter Try.func29, Try.ntmps29
    go_wp2_with fail
    refine (impl_AroundTurn _ _ _ _ _ _ hrd hl hn hs).mono ?_
    rintro e w1 ⟨A5, c5, rfl, ho5, _, _, _, hr5, hb5⟩
    rw [HB.out]
    go_wp2
    go_ret
    exact ⟨ret_bool HX.out.symm, hb5⟩
  · have HX := Lib.hid (saB_at hB)
    have HL := Lib.hid (aroL_full hB)
    have HB := Lib.hid hB
    clear hB
    go_enter Try.func29, Try.ntmps29
    go_wp2_with fail
    refine (impl_AroundTurn _ _ _ _ _ _ hrd hl hn hs).mono ?_
    rintro e w1 ⟨A5, c5, rfl, ho5, _, _, _, hr5, hb5⟩
    rw [HB.out]
    go_wp2_with fail
    refine (sameNotes_any _ _ _ _ _ _ _ (hrd.below hb5 rfl) hr5 hl (by have := HL.out; omega) HL.out.1.symm).mono ?_
    rintro e w2 ⟨rfl, hb6⟩
    rw [← HX.out]
    go_wp2
    go_ret
    exact ⟨rfl, hb5.trans (hb6.mono hb5.size)⟩
end Go.Proofs.Ytajlopigpppeaaa
