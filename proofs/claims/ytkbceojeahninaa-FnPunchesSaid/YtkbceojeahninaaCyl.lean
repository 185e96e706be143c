/- What the laws ask of cylinders: copies, equal ones, marks, sizes. -/
import Derived.Test.YtkbceojeahninaaPins
namespace Go.Proofs.Ytkbceojeahninaa
open Go.ChangeShapes Go.WideShapes Go.ChangeAt Go.RowKit
set_option linter.unusedVariables false
/-- A struct of two numbers and a new slice of pairs. -/
def RetC (e B : Nat) (f g : Int) (L : List (Int × Int)) (w : World) (en : Ending) (w' : World) : Prop :=
  ∃ A c, en = .returned (.agg #[.int .i64 f, .int .i64 g, .slice A L.length c]) ∧ OwnN e B w' (.slice A L.length c) L ∧ L.length ≤ c ∧ c ≤ maxLen ∧ (A = none → c = 0) ∧ RdN w' A L ∧ Below B w w'
theorem RetC.mk {e B : Nat} {f g : Int} {L : List (Int × Int)} {w w' : World} {v : Value} (h : OwnN e B w' v L) (hb : Below B w w') : RetC e B f g L w (.returned (.agg #[.int .i64 f, .int .i64 g, v])) w' := by
  obtain ⟨A, c, he, r⟩ := RetN.mk h hb
  injection he with he
  subst he
  exact ⟨A, c, rfl, r⟩
set_option maxHeartbeats 800000 in
theorem toCylinder_any (f g : Int) (A : Option Addr) (c : Nat) (l : List (Int × Int)) (w : World) (hrd : RdN w A l) (hl : l.length ≤ 1000000000) :
    Calls Try.prog 45 #[.agg #[.int .i64 f, .int .i64 g, .slice A l.length c]] w (RetC 65 w.heap.size f g l w) := by
  obtain ⟨W, hW⟩ : ∃ W, W = ((w.alloc (.cells #[.int .i64 f, .int .i64 g, .slice A l.length c] 68)).alloc (.cells #[.int .i64 0, .int .i64 0, .slice none 0 0] 56)).alloc (.cells #[.int .i64 f, .int .i64 g, .slice none 0 0] 56) := ⟨_, rfl⟩
  have hrdW : RdN W A l := by rw [hW]; exact rdn_alloc (rdn_alloc (rdn_alloc hrd _) _) _
  have hbW : Below w.heap.size w W := by rw [hW]; exact (((Below.refl _ _).alloc (Nat.le_refl _) _).alloc (by simp) _).alloc (by simp; omega) _
  have hsW : W.heap.size = w.heap.size + 3 := by rw [hW]; simp
  have hcW : W.cell? ⟨w.heap.size + 2, 0, none⟩ = some (.int .i64 f) ∧ W.cell? ⟨w.heap.size + 2, 1, none⟩ = some (.int .i64 g) ∧ W.cell? ⟨w.heap.size + 2, 2, none⟩ = some (.slice none 0 0) ∧ W.cell? ⟨w.heap.size + 1, 0, none⟩ = some (.int .i64 0) ∧ W.cell? ⟨w.heap.size + 1, 1, none⟩ = some (.int .i64 0) ∧ W.cell? ⟨w.heap.size + 1, 2, none⟩ = some (.slice none 0 0) := by
    rw [hW]; exact ⟨by simp [go_sem], by simp [go_sem], by simp [go_sem], by simp [go_sem], by simp [go_sem], by simp [go_sem]⟩
  have hfW : W.frozen? ⟨w.heap.size + 2, 2, none⟩ = false ∧ W.frozen? ⟨w.heap.size + 1, 0, none⟩ = false ∧ W.frozen? ⟨w.heap.size + 1, 1, none⟩ = false ∧ W.frozen? ⟨w.heap.size + 1, 2, none⟩ = false := by
    rw [hW]; exact ⟨by simp [go_sem], by simp [go_sem], by simp [go_sem], by simp [go_sem]⟩
  have HW := Lib.hid hW
  clear hW
  go_enter Try.func45, Try.ntmps45
  go_wp2_with fail
  rw [← HW.out]
  refine (toPinS_any A c l W hrdW hl).mono ?_
  rintro e w1 ⟨A1, c1, rfl, ho, hc1, hm1, hn1, hr1, hb1⟩
  have k1 := (hb1.cell (p := ⟨w.heap.size + 2, 0, none⟩) (by show w.heap.size + 2 < _; omega)).trans hcW.1
  have k2 := (hb1.cell (p := ⟨w.heap.size + 2, 1, none⟩) (by show w.heap.size + 2 < _; omega)).trans hcW.2.1
  have k3 := (hb1.cell (p := ⟨w.heap.size + 2, 2, none⟩) (by show w.heap.size + 2 < _; omega)).trans hcW.2.2.1
  have f3 := (hb1.frozen (p := ⟨w.heap.size + 2, 2, none⟩) (by show w.heap.size + 2 < _; omega)).trans hfW.1
  have k4 := (hb1.cell (p := ⟨w.heap.size + 1, 0, none⟩) (by show w.heap.size + 1 < _; omega)).trans hcW.2.2.2.1
  have k5 := (hb1.cell (p := ⟨w.heap.size + 1, 1, none⟩) (by show w.heap.size + 1 < _; omega)).trans hcW.2.2.2.2.1
  have k6 := (hb1.cell (p := ⟨w.heap.size + 1, 2, none⟩) (by show w.heap.size + 1 < _; omega)).trans hcW.2.2.2.2.2
  have f4 := (hb1.frozen (p := ⟨w.heap.size + 1, 0, none⟩) (by show w.heap.size + 1 < _; omega)).trans hfW.2.1
  have f5 := (hb1.frozen (p := ⟨w.heap.size + 1, 1, none⟩) (by show w.heap.size + 1 < _; omega)).trans hfW.2.2.1
  have f6 := (hb1.frozen (p := ⟨w.heap.size + 1, 2, none⟩) (by show w.heap.size + 1 < _; omega)).trans hfW.2.2.2
  have z1 : w.heap.size + 2 < w1.heap.size := by have := hb1.size; omega
  have HO : Hid (OwnN 65 (w.heap.size + 3) w1 (.slice A1 l.length c1) l) := by unfold Hid; rw [← hsW]; exact ho
  have HB : Hid (Below w.heap.size w w1) := hbW.trans (hb1.mono (by omega))
  clear ho hr1 hb1 hbW hsW hcW hfW hrd hrdW hn1 hc1 hm1
  go_wp2
  refine bodyPost_ret (v := .agg #[.int .i64 f, .int .i64 g, .slice A1 l.length c1]) (by simp [results, Try.results45, go_sem, k4, k5, k6]) rfl (RetC.mk (OwnN.base_le (B := w.heap.size + 3) ?_ (by omega)) ?_)
  · exact (((HO.out.setBelow (by show w.heap.size + 2 < _; omega) _).setBelow (by show w.heap.size + 1 < _; omega) _).setBelow (by show w.heap.size + 1 < _; omega) _).setBelow (by show w.heap.size + 1 < _; omega) _
  · exact (((HB.out.setCell (by show _ ≤ w.heap.size + 2; omega) _).setCell (by show _ ≤ w.heap.size + 1; omega) _).setCell (by show _ ≤ w.heap.size + 1; omega) _).setCell (by show _ ≤ w.heap.size + 1; omega) _
theorem szCylinder_any (f g : Int) (A : Option Addr) (c : Nat) (l : List (Int × Int)) (left : Int) (w : World) (hl : (l.length : Int) ≤ left) (hm : left ≤ 1048576) :
    Calls Try.prog 43 #[.agg #[.int .i64 f, .int .i64 g, .slice A l.length c], .int .i64 left] w fun e w' => e = .returned (.int .i64 (left - l.length)) ∧ Below w.heap.size w w' := by
  go_enter Try.func43, Try.ntmps43
  go_wp2_with (go_at_call 83; go_in)
  go_ret
  exact ⟨rfl, (Below.refl _ _).alloc (Nat.le_refl _) _⟩
theorem szCylinder_big (f g : Int) (A : Option Addr) (c : Nat) (l : List (Int × Int)) (w : World) (hl : 1048576 < l.length) (hm : l.length ≤ 9223372036854775807) :
    Calls Try.prog 43 #[.agg #[.int .i64 f, .int .i64 g, .slice A l.length c], .int .i64 1048576] w fun e w' => e = .returned (.int .i64 (-1)) ∧ Below w.heap.size w w' := by
  go_enter Try.func43, Try.ntmps43
  go_wp2_with (go_at_call 83; go_in)
  go_ret
  exact ⟨rfl, (Below.refl _ _).alloc (Nat.le_refl _) _⟩
set_option maxHeartbeats 800000 in
theorem eqCylinder_same (f g : Int) (A B : Option Addr) (c d : Nat) (l : List (Int × Int)) (w : World) (hA : RdN w A l) (hB : RdN w B l) (hl : l.length ≤ 1000000000) :
    Calls Try.prog 47 #[.agg #[.int .i64 f, .int .i64 g, .slice A l.length c], .agg #[.int .i64 f, .int .i64 g, .slice B l.length d]] w fun e w' => e = .returned (.bool true) ∧ Below w.heap.size w w' := by
  obtain ⟨W, hW⟩ : ∃ W, W = (w.alloc (.cells #[.int .i64 f, .int .i64 g, .slice A l.length c] 56)).alloc (.cells #[.int .i64 f, .int .i64 g, .slice B l.length d] 56) := ⟨_, rfl⟩
  have hAW : RdN W A l := by rw [hW]; exact rdn_alloc (rdn_alloc hA _) _
  have hBW : RdN W B l := by rw [hW]; exact rdn_alloc (rdn_alloc hB _) _
  have hbW : Below w.heap.size w W := by rw [hW]; exact ((Below.refl _ _).alloc (Nat.le_refl _) _).alloc (by simp) _
  have hsW : W.heap.size = w.heap.size + 2 := by rw [hW]; simp
  have HW := Lib.hid hW
  clear hW
  go_enter Try.func47, Try.ntmps47
  go_wp2_with fail
  rw [← HW.out]
  refine (eqPinS_same A B c d l W hAW hBW hl).mono ?_
  rintro e w1 ⟨rfl, hb1⟩
  have HB : Hid (Below w.heap.size w w1) := hbW.trans (hb1.mono (by omega))
  clear hb1 hbW hsW hA hB hAW hBW
  go_wp2
  go_ret
  exact ⟨rfl, HB.out⟩
set_option maxHeartbeats 800000 in
theorem markCylinder_any (e B : Nat) (f g : Int) (A : Option Addr) (c : Nat) (l : List (Int × Int)) (k0 : Int) (w : World) (hown : OwnN e B w (.slice A l.length c) l) (hl : l.length ≤ 1000000000) (hk0 : 0 ≤ k0) (hk1 : k0 ≤ 1000000000) :
    Calls Try.prog 48 #[.agg #[.int .i64 f, .int .i64 g, .slice A l.length c], .int .i64 k0] w fun en w' => en = .returned (.int .i64 (k0 + 2 * l.length)) ∧
      ∃ L, L.length = l.length ∧ MarkedN k0 l.length L ∧ OwnN e B w' (.slice A l.length c) L ∧ w.grownBy w' (Value.slice A l.length c).ownBlock := by
  obtain ⟨W, hW⟩ : ∃ W, W = w.alloc (.cells #[.int .i64 f, .int .i64 g, .slice A l.length c] 56) := ⟨_, rfl⟩
  have hoW : OwnN e B W (.slice A l.length c) l := by rw [hW]; exact World.ownsRow.alloc hown _
  have hgW : w.grownBy W (Value.slice A l.length c).ownBlock := by rw [hW]; exact World.grownBy_alloc _ _ _
  have HW := Lib.hid hW
  clear hW
  go_enter Try.func48, Try.ntmps48
  go_wp2_with fail
  rw [← HW.out]
  refine (markPinS_any e B A c l k0 W hoW hl hk0 hk1).mono ?_
  rintro en w1 ⟨rfl, L, hL, hM, ho, hg⟩
  have HF := Lib.hid (And.intro hL (And.intro hM (And.intro ho (grown_trans hgW hg))))
  clear hL hM ho hg hoW hgW hown
  go_wp2
  go_ret
  exact ⟨rfl, L, HF.out.1, HF.out.2.1, HF.out.2.2.1, HF.out.2.2.2⟩
end Go.Proofs.Ytkbceojeahninaa
