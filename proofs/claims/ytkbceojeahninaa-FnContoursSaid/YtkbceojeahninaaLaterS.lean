/- spec.Later: a tune moved later. -/
import Derived.Test.YtkbceojeahninaaLat
import Derived.Test.YtkbceojeahninaaSpecSort
namespace Go.Proofs.Ytkbceojeahninaa
open Go.ChangeShapes Go.WideShapes Go.ChangeAt Go.RowKit
set_option linter.unusedVariables false
theorem heldW_keep {w v u : World} {b o N : Nat} {u1 u2 : Value} (l1 : b < N)
    (h : v.cell? ⟨b, o, none⟩ = some u1 ∧ v.cell? ⟨b, o + 1, none⟩ = some u2 ∧ Below N w v) (hb : Below N v u) :
    u.cell? ⟨b, o, none⟩ = some u1 ∧ u.cell? ⟨b, o + 1, none⟩ = some u2 ∧ Below N w u := by
  obtain ⟨h1, h2, h5⟩ := h
  exact ⟨(hb.cell (p := ⟨b, o, none⟩) l1).trans h1, (hb.cell (p := ⟨b, o + 1, none⟩) l1).trans h2, h5.trans hb⟩
theorem heldW_bel {w v : World} {b o N : Nat} {u1 u2 : Value} (h : v.cell? ⟨b, o, none⟩ = some u1 ∧ v.cell? ⟨b, o + 1, none⟩ = some u2 ∧ Below N w v) : Below N w v := h.2.2
theorem len_1 {S : List (Int × Int)} {x : Int × Int} (h : S.length ≤ 40) : S.length + [x].length ≤ 1000000000 := by simp; omega
theorem tune_len5 {l : List (Int × Int)} (h : tuneB l = true) : l.length ≤ 40 := (of_decide_eq_true h : tuneP l).2
end Go.Proofs.Ytkbceojeahninaa
