/- Slices of bools that the call owns: make, read, store. No function of the program here. -/
import Derived.Test.YtkbceojeahninaaBase
namespace Go.Proofs.Ytkbceojeahninaa
open Go.ChangeShapes Go.WideShapes Go.ChangeAt Go.RowKit
set_option linter.unusedVariables false
def gbo (l : List Bool) (i : Nat) : Bool := l.getD i false
def bools (l : List Bool) : List Value := l.map Value.bool
def OwnT (e B : Nat) (w : World) (v : Value) (l : List Bool) : Prop := w.ownsRow B e 1 v l.length (bools l)
theorem bools_get (l : List Bool) (j : Nat) (h : j < l.length) : (bools l)[j]? = some (.bool (gbo l j)) := by
  simp [bools, gbo, h]
theorem gbo_set (L : List Bool) (j i : Nat) (y : Bool) (hj : j < L.length) : gbo (L.set j y) i = if i = j then y else gbo L i := by
  unfold gbo
  by_cases h : i = j
  · subst h; simp [List.getD, hj]
  · rw [if_neg h]
    simp [List.getD, Ne.symm h]
theorem bools_set (L : List Bool) (j : Nat) (y : Bool) : bools (L.set j y) = (bools L).set j (.bool y) := by
  unfold bools; rw [List.map_set]
theorem OwnT.blk {e B : Nat} {w : World} {v : Value} {L : List Bool} (h : OwnT e B w v L) : ∀ k, v.ownBlock = some k → B ≤ k ∧ k < w.heap.size := World.ownsRow.lt h
theorem OwnT.head {e B : Nat} {w : World} {A : Option Addr} {n c : Nat} {L : List Bool} (h : OwnT e B w (.slice A n c) L) (hL : 0 < L.length) :
    ∃ g, A = some ⟨g, 0, none⟩ ∧ B ≤ g ∧ g < w.heap.size ∧ (∀ j, j < L.length → w.cell? ⟨g, j, none⟩ = some (.bool (gbo L j))) ∧ ∀ j, w.frozen? ⟨g, j, none⟩ = false := by
  rcases h.2 with ⟨h', hn⟩ | ⟨g, cap, cur, h', hBg, hh, _⟩
  · omega
  · injection h' with h1 h2 h3
    subst h1 h2 h3
    exact ⟨g, rfl, hBg, (Array.getElem?_eq_some_iff.1 hh).1, fun j hj => (World.ownsRow.cellAt h j (by omega)).trans (bools_get L j hj), fun j => frozen_of_row w g j cur e hh⟩
theorem OwnT.stored {e B : Nat} {w : World} {g n c : Nat} {L : List Bool} (h : OwnT e B w (.slice (some ⟨g, 0, none⟩) n c) L) (j : Nat) (y : Bool) :
    OwnT e B (w.setCell ⟨g, j, none⟩ (.bool y)) (.slice (some ⟨g, 0, none⟩) n c) (L.set j y) ∧ w.grownBy (w.setCell ⟨g, j, none⟩ (.bool y)) (some g) := by
  have hn : n = L.length := by
    rcases h.2 with ⟨h', _⟩ | ⟨g', cap', cur, h', _⟩
    · cases h'
    · injection h'
  subst hn
  have := World.ownsRow.stored h j (.bool y)
  refine ⟨?_, this.2⟩
  unfold OwnT
  rw [List.length_set, bools_set]
  exact this.1
theorem OwnT.upto {e B B' : Nat} {w w' : World} {v : Value} {l : List Bool} (h : OwnT e B' w v l) (hb : Below B w w') (hB : w.heap.size ≤ B) : OwnT e B' w' v l := ownsRow_below h (hb.mono hB) rfl
theorem gbo_rep (n i : Nat) : gbo (List.replicate n false) i = false := by
  unfold gbo
  rw [List.getD, List.getElem?_replicate]
  split <;> rfl
section
variable {P : Program} {ops : Array Oper} {rest : List Oper} {o : Oper} {a : Act} {Q : Exit → Act → World → Prop} {W : World}
/-- make([]bool, n). -/
theorem make_bools (hg : o.guard = none) (l c : Operand) (t : TypeId) (hop : o.op = Op.makeSlice t l c) (e : TypeId) (ht : P.underlying t = some (.slice e))
    (hI : (P.info? e).map (fun i => (i.zero, i.size, i.bytes)) = some (some (.bool false), 1, 1)) (B n : Nat) (hl : a.eval l = .int .i64 (n : Int)) (hc : a.eval c = .int .i64 (n : Int)) (hn : n ≤ 1000000000) (hB : B ≤ W.heap.size)
    (hK : ∀ w', OwnT e B w' (.slice (some ⟨W.heap.size, 0, none⟩) n n) (List.replicate n false) → Below B W w' → W.heap.size < w'.heap.size → wpList P ops Q rest (a.put o.dst (.slice (some ⟨W.heap.size, 0, none⟩) n n)) w') : wpList P ops Q (o :: rest) a W := by
  obtain ⟨i, hi, hz, hsz, hby⟩ := info_parts hI
  refine wpList_make_full W hg l c t hop B e i (.bool false) 1 ht hi hz hsz .i64 .i64 n n n hl hc rfl rfl (by rw [hby]; omega) (by unfold maxLen; omega) hB fun w' h1 h2 => ?_
  have ho : OwnT e B w' (.slice (some ⟨W.heap.size, 0, none⟩) n n) (List.replicate n false) := by
    unfold OwnT bools
    rw [List.length_replicate, List.map_replicate, ← toList_madeCells_one]
    simpa [Value.cells] using h1
  exact hK w' ho ((Below.refl B W).grown h2 hB (fun k hk => by cases hk)) (ho.blk _ rfl).2
end
end Go.Proofs.Ytkbceojeahninaa
