/- A slice of bytes that came in. -/
import Derived.Test.YtkbceojeahninaaBase
import Derived.Test.YtkbceojeahninaaCur
namespace Go.Proofs.Ytkbceojeahninaa
open Go.ChangeShapes Go.WideShapes Go.ChangeAt Go.RowKit
set_option linter.unusedVariables false
section
variable {H : Type} {enc : TypeId × Value → H} {P : Program} {w : World} {base : Nat} {spare : Nat → Bool} {held : Bool}
theorem arg_bytes {t e : TypeId} {fuel : Nat} {cs : List Value} {x : DataW H × List MemPlace} (ht : P.underlying t = some (.slice e)) (he : P.underlying e = some (.int .u8)) (hc : P.cellsOf e = 1)
    (h : DataW.trod enc P w base spare held fuel t cs = some x) :
    ∃ (A : Option Addr) (c : Nat) (l : List Int), cs = [.slice A l.length c] ∧ l.length ≤ c ∧ c ≤ maxLen ∧ RdU w A l.length w.heap.size ∧ True := by
  rcases open_ints ht he hc h with ⟨hcs, _⟩ | ⟨a, len, cap, zs, hcs, _, hl, hm, hz, _, hcell, hwz⟩
  · exact ⟨none, 0, [], hcs, by simp, by simp [maxLen], fun h => by simp at h, trivial⟩
  · have hzl : len ≤ zs.length := by rw [hz]; split <;> omega
    have htl : (zs.take len).length = len := by simp; omega
    refine ⟨some a, cap, zs.take len, by rw [htl]; exact hcs, by omega, hm, fun h0 => ?_, trivial⟩
    rw [htl] at h0 ⊢
    obtain ⟨b, off, spot⟩ := a
    have h00 := hcell 0 (by omega)
    have hspot : spot = none := by simpa [Addr.add] using World.cell?_spot h00
    subst hspot
    have hcj : ∀ j, j < len → w.cell? ⟨b, off + j, none⟩ = some (.int .u8 (zs.getD j 0)) := fun j hj => by
      have := hcell j (by omega)
      unfold Addr.add at this
      split at this
      · rename_i h; subst h; exact this
      · exact this
    refine ⟨b, off, rfl, cell_lt (hcj 0 (by omega)), fun j hj => ⟨_, hcj j hj, ?_⟩⟩
    have e : zs.getD j 0 = zs[j]'(by omega) := by simp [List.getD, List.getElem?_eq_getElem (show j < zs.length by omega)]
    rw [e]
    have hw := hwz _ (List.getElem_mem (show j < zs.length by omega))
    generalize zs[j]'(by omega) = z at hw
    have := bounds_u8 hw
    omega
end
end Go.Proofs.Ytkbceojeahninaa
