/- The best order: the reference. -/
import Derived.Test.YthgeijgojdmidaaBstS
import Derived.Test.YthgeijgojdmidaaBstI
namespace Go.Proofs.Ythgeijgojdmidaa
open Go.ChangeShapes Go.WideShapes Go.ChangeAt Go.RowKit
set_option linter.unusedVariables false
attribute [local irreducible] tm pt gt cylB cosF sr bstL bstB fm PM in
set_option maxHeartbeats 3200000 in
theorem spec_Best (s t : Int) (A : Option Addr) (c : Nat) (P : List (Int × Int)) (w : World) (hrd : RdN w A P) (hP : P.length ≤ 1000000000) :
    Calls Try.prog 45 #[.agg #[.int .i64 s, .int .i64 t, .slice A P.length c]] w (RetIB 3 w.heap.size (bstL s t P) (bstB s t P) w) := by
  obtain ⟨W0, hW0⟩ : ∃ W, W = w.alloc (.cells #[.int .i64 s, .int .i64 t, .slice A P.length c] 30) := ⟨_, rfl⟩
  have hb0 : Below w.heap.size w W0 := by rw [hW0]; exact (Below.refl _ _).alloc (Nat.le_refl _) _
  have s0 : w.heap.size < W0.heap.size := by rw [hW0]; simp
  have a0 : W0.cell? ⟨w.heap.size, 0, none⟩ = some (.int .i64 s) := by rw [hW0]; simp [go_sem]
  have a1 : W0.cell? ⟨w.heap.size, 1, none⟩ = some (.int .i64 t) := by rw [hW0]; simp [go_sem]
  have a2 : W0.cell? ⟨w.heap.size, 2, none⟩ = some (.slice A P.length c) := by rw [hW0]; simp [go_sem]
  have hrd0 := hrd.below hb0 rfl
  have HW0 := Lib.hid hW0
  clear hW0 hrd
  cases hC : cylB s t P
  · have HF := Lib.hid (bst_no (s := s) (t := t) (P := P) (by rw [hC]; simp))
    have HC := Lib.hid hC
    clear hC
    go_enter Try.func45, Try.ntmps45
    go_wp2_with fail
    rw [← HW0.out]
    refine (spec_CylOk _ _ _ _ _ _ hrd0 hP).mono ?_
    rintro e w1 ⟨rfl, hb1⟩
    rw [HC.out]
    have hbF := hb0.trans (hb1.mono (Nat.le_of_lt s0))
    have hoF := (OwnI.lit0 w1 3).base_le hbF.size
    have hbG := hbF.alloc hbF.size (.cells #[] 3)
    go_wp2
    go_ret2
    rw [HF.out.1, HF.out.2]
    exact RetIB.mk hoF hbG
  · by_cases h7 : P.length ≤ 7
    · have HF := Lib.hid (bst_yes ⟨hC, h7⟩)
      have HC := Lib.hid hC
      have HS := Lib.hid (sr_best hC)
      have HCN := Lib.hid (cos_nil s P)
      have HQ := Lib.hid (search_any s t P h7 P.length)
      have h7i : (P.length : Int) ≤ 7 := by omega
      have h7d : decide ((7 : Int) < (P.length : Int)) = false := decide_eq_false (by omega)
      clear hC
      go_enter Try.func45, Try.ntmps45
      go_wp2_with fail
      rw [← HW0.out]
      refine (spec_CylOk _ _ _ _ _ _ hrd0 hP).mono ?_
      rintro e w1 ⟨rfl, hb1⟩
      rw [HC.out]
      have e0 := (hb1.cell (p := ⟨w.heap.size, 0, none⟩) s0).trans a0
      have e1 := (hb1.cell (p := ⟨w.heap.size, 1, none⟩) s0).trans a1
      have e2 := (hb1.cell (p := ⟨w.heap.size, 2, none⟩) s0).trans a2
      have hlt1 : w.heap.size < w1.heap.size := Nat.lt_of_lt_of_le s0 hb1.size
      have hbz : Below w1.heap.size w1 (w1.alloc (.cells #[] 3)) := (Below.refl _ _).alloc (Nat.le_refl _) _
      have hrd2 := (hrd0.below hb1 rfl).below hbz rfl
      go_wp2_with fail
      refine (HQ.out A c [] w1.heap.size 0 0 0 _ rfl HCN.out.symm hrd2 (fun h => by simp at h) (by simp) (fun i hi => by simp at hi)).mono ?_
      rintro e w3 ⟨A3, c3, rfl, ho3, _, _, _, _, hb3⟩
      have hb01 := hb0.trans (hb1.mono (Nat.le_of_lt s0))
      have hb02 := hb01.trans (hbz.mono hb01.size)
      have hbF := hb02.trans (hb3.mono hb02.size)
      have hoF := ho3.base_le hb02.size
      clear e0 e1 e2 hrd2 ho3 hb3 hbz
      go_wp2
      go_ret2
      rw [HF.out.1, HF.out.2, ← HS.out]
      exact RetIB.mk hoF hbF
    · have HF := Lib.hid (bst_no (s := s) (t := t) (P := P) (fun h => h7 h.2))
      have HC := Lib.hid hC
      have h7i : (7 : Int) < (P.length : Int) := by omega
      have h7d : decide ((7 : Int) < (P.length : Int)) = true := decide_eq_true (by omega)
      clear hC
      go_enter Try.func45, Try.ntmps45
      go_wp2_with fail
      rw [← HW0.out]
      refine (spec_CylOk _ _ _ _ _ _ hrd0 hP).mono ?_
      rintro e w1 ⟨rfl, hb1⟩
      rw [HC.out]
      have e2 := (hb1.cell (p := ⟨w.heap.size, 2, none⟩) s0).trans a2
      have hbF := hb0.trans (hb1.mono (Nat.le_of_lt s0))
      have hoF := (OwnI.lit0 w1 3).base_le hbF.size
      have hbG := hbF.alloc hbF.size (.cells #[] 3)
      go_wp2
      go_ret2
      rw [HF.out.1, HF.out.2]
      exact RetIB.mk hoF hbG
end Go.Proofs.Ythgeijgojdmidaa
