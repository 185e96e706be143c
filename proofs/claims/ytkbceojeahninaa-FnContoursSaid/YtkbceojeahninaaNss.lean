/- Slices of slices of notes: how they read as lists of lists, and what the laws ask of them. -/
import Derived.Test.YtkbceojeahninaaNotes
namespace Go.Proofs.Ytkbceojeahninaa
open Go.ChangeShapes Go.WideShapes Go.ChangeAt Go.RowKit Go.Deep Go.Joins
set_option linter.unusedVariables false
def nt (ls : List (List (Int × Int))) (i : Nat) : List (Int × Int) := ls.getD i []
def RdNS (w : World) (A : Option Addr) (ls : List (List (Int × Int))) : Prop :=
  0 < ls.length → ∃ b off, A = some ⟨b, off, none⟩ ∧ b < w.heap.size ∧ ∀ j, j < ls.length → ∃ A' c', w.cell? ⟨b, off + j, none⟩ = some (.slice A' (nt ls j).length c') ∧ (nt ls j).length ≤ c' ∧ c' ≤ maxLen ∧ RdN w A' (nt ls j)
theorem RdNS.below {B : Nat} {w w' : World} {A : Option Addr} {ls : List (List (Int × Int))} (h : RdNS w A ls) (hb : Below B w w') (hB : B = w.heap.size) : RdNS w' A ls := by
  subst hB
  intro hl
  obtain ⟨b, off, rfl, hlt, hc⟩ := h hl
  refine ⟨b, off, rfl, Nat.lt_of_lt_of_le hlt hb.size, fun j hj => ?_⟩
  obtain ⟨A', c', h1, h2, h3, h4⟩ := hc j hj
  exact ⟨A', c', (hb.cell (p := ⟨b, off + j, none⟩) hlt).trans h1, h2, h3, h4.below hb rfl⟩
theorem RdNS.upto {B : Nat} {w w' : World} {A : Option Addr} {ls : List (List (Int × Int))} (h : RdNS w A ls) (hb : Below B w w') (hB : w.heap.size ≤ B) : RdNS w' A ls := h.below (hb.mono hB) rfl
section
variable {H : Type} {enc : TypeId × Value → H} {P : Program} {w : World} {base : Nat} {spare : Nat → Bool} {held : Bool}
/-- A slice of slices of pairs that came in. -/
theorem arg_notess {t s e : TypeId} {f0 f1 : Field} {fuel : Nat} {cs : List Value} {x : DataW H × List MemPlace} (ht : P.underlying t = some (.slice s)) (hs : P.underlying s = some (.slice e)) (he : P.underlying e = some (.struct #[f0, f1]))
    (h0 : P.underlying f0.type = some (.int .i64)) (h1 : P.underlying f1.type = some (.int .i64)) (o0 : f0.offset = 0) (o1 : f1.offset = 1) (k0 : P.cellsOf f0.type = 1) (k1 : P.cellsOf f1.type = 1) (hC : P.cellsOf e = 2) (hS : P.cellsOf s = 1)
    (h : DataW.trod enc P w base spare held fuel t cs = some x) :
    ∃ (A : Option Addr) (c : Nat) (ls : List (List (Int × Int))), cs = [.slice A ls.length c] ∧ ls.length ≤ c ∧ c ≤ maxLen ∧ RdNS w A ls ∧ True := by
  rcases open_slice1 ht hS h with ⟨hcs, _⟩ | ⟨a, len, cap, m, n, V, D, Pl, hcs, _, hl, hm, hmm, _, hi⟩
  · exact ⟨none, 0, [], hcs, by simp, by simp [maxLen], fun h => by simp at h, trivial⟩
  · have hml : len ≤ m := by rw [hmm]; split <;> omega
    have each : ∀ i, i < len → ∃ y : List (Int × Int), ∃ A' c', w.cell? (a.add i) = some (.slice A' y.length c') ∧ y.length ≤ c' ∧ c' ≤ maxLen ∧ RdN w A' y := by
      intro i hil
      obtain ⟨hc, ht'⟩ := hi i (by omega)
      obtain ⟨A', c', y, hv, h2, h3, h4, _⟩ := arg_pairs hs he h0 h1 o0 o1 k0 k1 hC ht'
      injection hv with hv _
      exact ⟨y, A', c', by rw [hc, hv], h2, h3, h4⟩
    obtain ⟨y, hy⟩ := choose_lt each
    have hlen : ((List.range len).map y).length = len := by simp
    have hget : ∀ i, i < len → nt ((List.range len).map y) i = y i := fun i hi => by simp [nt, List.getD, hi]
    refine ⟨some a, cap, (List.range len).map y, by rw [hlen]; exact hcs, by omega, hm, fun hp => ?_, trivial⟩
    rw [hlen] at hp
    obtain ⟨b, off, spot⟩ := a
    obtain ⟨A0, c0, h00, _⟩ := hy 0 hp
    have hspot : spot = none := by simpa [Addr.add] using World.cell?_spot h00
    subst hspot
    have hadd : ∀ j, (⟨b, off, none⟩ : Addr).add j = ⟨b, off + j, none⟩ := fun j => by
      unfold Addr.add
      split
      · rename_i h; subst h; rfl
      · rfl
    rw [hadd] at h00
    refine ⟨b, off, rfl, cell_lt (off := off + 0) h00, fun j hj => ?_⟩
    rw [hlen] at hj
    obtain ⟨A', c', h1', h2', h3', h4'⟩ := hy j hj
    rw [hadd] at h1'
    rw [hget j hj]
    exact ⟨A', c', h1', h2', h3', h4'⟩
end
/-- The lengths of the first k. -/
def totZ (ls : List (List (Int × Int))) : Nat → Nat
  | 0 => 0
  | k + 1 => totZ ls k + (nt ls k).length
theorem totZ_mono (ls : List (List (Int × Int))) (k : Nat) : ∀ d, totZ ls k ≤ totZ ls (k + d)
  | 0 => Nat.le_refl _
  | d + 1 => by have := totZ_mono ls k d; rw [show k + (d + 1) = (k + d) + 1 by omega, totZ]; omega
theorem totZ_le {ls : List (List (Int × Int))} {k n : Nat} (h : k ≤ n) : totZ ls k ≤ totZ ls n := by
  have := totZ_mono ls k (n - k); rwa [show k + (n - k) = n by omega] at this
theorem nt_le {ls : List (List (Int × Int))} {k : Nat} (h : k < ls.length) : (nt ls k).length ≤ totZ ls ls.length := by
  have := totZ_le (ls := ls) (show k + 1 ≤ ls.length from h); rw [totZ] at this; omega
def szOk (ls : List (List (Int × Int))) (left : Int) : Prop := (ls.length : Int) + (totZ ls ls.length : Nat) ≤ left
instance (ls : List (List (Int × Int))) (left : Int) : Decidable (szOk ls left) := inferInstanceAs (Decidable (_ ≤ _))
def szZ (ls : List (List (Int × Int))) (left : Int) : Int := if szOk ls left then left - ((ls.length : Int) + (totZ ls ls.length : Nat)) else -1
theorem szZ_yes {ls : List (List (Int × Int))} {left : Int} (h : szOk ls left) : szZ ls left = left - ((ls.length : Int) + (totZ ls ls.length : Nat)) := if_pos h
theorem szZ_no {ls : List (List (Int × Int))} {left : Int} (h : ¬ szOk ls left) : szZ ls left = -1 := if_neg h
end Go.Proofs.Ytkbceojeahninaa
