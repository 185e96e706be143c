/- A row of pairs that the call owns, handed to the library's sort: the words of the two, side by side. -/
import Derived.Test.YtkbceojeahninaaBase
import Derived.Sort.Grow
import Derived.Shelf.GgSortFunc.RowK
import Derived.Shelf.GgSortFunc.InsertionK
namespace Go.Proofs.Ytkbceojeahninaa
open Go.ChangeShapes Go.WideShapes Go.ChangeAt Go.RowKit Go.Sort Go.Lib
set_option linter.unusedVariables false
def encN (x : Int × Int) : List Value := [.int .i64 x.1, .int .i64 x.2]
theorem flat_pairs (D : List (Int × Int)) : flatK encN 2 D.toArray = (pairs D).toArray := by
  refine ext_get! (by simp [pairs_length]) fun t ht => ?_
  have ht' : t < D.length * 2 := by simpa using ht
  rw [get_flatK _ _ _ _ (by simpa using ht')]
  have hd : t / 2 < D.length := by omega
  have hg := pairs_get D (t / 2) hd
  have hD : D.toArray[t / 2]! = D[t / 2] := by simp [hd]
  have htm : tm D (t / 2) = (D[t / 2]).1 := by simp [tm, List.getD, hd]
  have hpt : pt D (t / 2) = (D[t / 2]).2 := by simp [pt, List.getD, hd]
  rw [hD]
  have hp : t < (pairs D).length := by rw [pairs_length]; exact ht'
  have hr : (pairs D).toArray[t]! = (pairs D)[t] := by simp [hp]
  rw [hr]
  rcases Nat.mod_two_eq_zero_or_one t with h0 | h0
  · have e : t / 2 * 2 = t := by omega
    rw [e, htm] at hg
    have := hg.1
    rw [List.getElem?_eq_getElem hp] at this
    injection this with this
    rw [this, h0]; rfl
  · have e : t / 2 * 2 + 1 = t := by omega
    rw [e, hpt] at hg
    have := hg.2
    rw [List.getElem?_eq_getElem hp] at this
    injection this with this
    rw [this, h0]; rfl
theorem heap_sortedV {w : World} {g n : Nat} {os : Array Obj} {cur : Array Value} {e : TypeId} {fr : Nat × Nat} (d : Array Value) (hb : w.heap[g]? = some (.cells cur e fr)) :
    (grow (putRow id (Sort.ahead w n) g 0 d) os).heap[g]? = some (.cells (putCells id 0 d cur) e fr) := by
  have hg : g < w.heap.size := (Array.getElem?_eq_some_iff.1 hb).1
  rw [heap_grow_old _ _ (by simpa using hg)]
  simp [putRow, mapBlock, Sort.ahead, Array.getElem?_modify, hb, onCells]
theorem grownBy_sortedV {w : World} {g n : Nat} {os : Array Obj} (d : Array Value) : w.grownBy (grow (putRow id (Sort.ahead w n) g 0 d) os) (some g) := by
  refine ⟨rfl, rfl, rfl, by simp, fun k hk hne => ?_⟩
  rw [heap_grow_old _ _ (by simpa using hk)]
  have : g ≠ k := fun e => hne (by rw [e])
  simp [putRow, mapBlock, Sort.ahead, Array.getElem?_modify, this]
theorem take_putCellsV (cur : Array Value) (ts : List Value) (h : ts.length ≤ cur.size) : (putCells id 0 ts.toArray cur).toList.take ts.length = ts := by
  apply List.ext_getElem?
  intro j
  by_cases hj : j < ts.length
  · rw [List.getElem?_take_of_lt hj, Array.getElem?_toList]
    simp [putCells, hj, show j < cur.size by omega]
  · rw [List.getElem?_take_eq_none (by omega), List.getElem?_eq_none (by omega)]
theorem OwnN.holdsK {e B : Nat} {w : World} {g n c : Nat} {l : List (Int × Int)} (h : OwnN e B w (.slice (some ⟨g, 0, none⟩) n c) l) : HoldsK encN 2 w g 0 l.toArray := by
  unfold HoldsK
  rw [flat_pairs]
  rcases h.2 with ⟨h', _⟩ | ⟨g', cap', cur, h', hBg, hh, hnc, hm, hcs, htake⟩
  · cases h'
  · injection h' with h1 h2 h3
    injection h1 with h1
    injection h1 with h1
    subst h1 h2 h3
    intro j hj
    have hj' : j < (pairs l).length := by simpa using hj
    refine ⟨?_, by simp [World.frozen?, hh]⟩
    have h1 : (cur.toList.take (l.length * 2))[j]? = (pairs l)[j]? := by rw [htake]
    rw [List.getElem?_take_of_lt (by rw [pairs_length] at hj'; exact hj')] at h1
    simp only [World.cell?, hh, Nat.zero_add]
    simp only [Option.isSome_none, Bool.false_eq_true, if_false]
    rw [← Array.getElem?_toList, h1]
    simp [hj']
theorem OwnN.sorted {e B : Nat} {w : World} {g n c m : Nat} {l D : List (Int × Int)} {os : Array Obj} (h : OwnN e B w (.slice (some ⟨g, 0, none⟩) n c) l) (hl : D.length = l.length) :
    OwnN e B (sortWorldK encN 2 w g 0 m D.toArray os) (.slice (some ⟨g, 0, none⟩) n c) D ∧ w.grownBy (sortWorldK encN 2 w g 0 m D.toArray os) (some g) := by
  unfold sortWorldK putRowK
  rw [flat_pairs]
  refine ⟨?_, grownBy_sortedV _⟩
  rcases h.2 with ⟨h', _⟩ | ⟨g', cap', cur, h', hBg, hh, hnc, hm, hcs, htake⟩
  · cases h'
  · injection h' with h1 h2 h3
    injection h1 with h1
    injection h1 with h1
    subst h1 h2 h3
    refine ⟨by rw [pairs_length], .inr ⟨g, c, _, by rw [hl], hBg, heap_sortedV _ hh, by rw [hl]; exact hnc, hm, by simp [putCells, hcs], ?_⟩⟩
    have hpl : (pairs D).length = D.length * 2 := pairs_length D
    rw [← hpl]
    exact take_putCellsV cur (pairs D) (by rw [hpl, hl, hcs]; exact Nat.mul_le_mul_right _ hnc)
/-- The first K of an owned row. -/
theorem OwnN.pre {e B : Nat} {w : World} {g n c K : Nat} {l : List (Int × Int)} (h : OwnN e B w (.slice (some ⟨g, 0, none⟩) n c) l) (hK : K ≤ l.length) :
    OwnN e B w (.slice (some ⟨g, 0, none⟩) K c) (l.take K) := by
  rcases h.2 with ⟨h', _⟩ | ⟨g', cap', cur, h', hBg, hh, hnc, hm, hcs, htake⟩
  · cases h'
  · injection h' with h1 h2 h3
    injection h1 with h1
    injection h1 with h1
    subst h1 h2 h3
    have hlen : (l.take K).length = K := by simp; omega
    refine ⟨by rw [pairs_length], .inr ⟨g, c, cur, by rw [hlen], hBg, hh, by rw [hlen]; omega, hm, hcs, ?_⟩⟩
    rw [hlen]
    have hp : pairs (l.take K) = (pairs l).take (K * 2) := by
      have h2 : pairs l = pairs (l.take K) ++ pairs (l.drop K) := by rw [← pairs_app, List.take_append_drop]
      rw [h2, List.take_append_of_le_length (by rw [pairs_length, hlen]; exact Nat.le_refl _)]
      exact (List.take_of_length_le (by rw [pairs_length, hlen]; exact Nat.le_refl _)).symm
    rw [hp, ← htake, List.take_take, Nat.min_eq_left (Nat.mul_le_mul_right _ hK)]
/-- A run of stores in an owned row, from element K on: the first K stay. -/
theorem OwnN.cleared {e B g n c : Nat} : ∀ (vs : List Value) (o : Nat) (w : World) (xs : List Value), w.ownsRow B e 2 (.slice (some ⟨g, 0, none⟩) n c) n xs →
    ∃ ys, (w.setCells g o vs).ownsRow B e 2 (.slice (some ⟨g, 0, none⟩) n c) n ys ∧ (∀ j, j < o → ys[j]? = xs[j]?) ∧ w.grownBy (w.setCells g o vs) (some g)
  | [], o, w, xs, h => ⟨xs, h, fun _ _ => rfl, World.grownBy.refl _ _⟩
  | v :: vs, o, w, xs, h => by
    have h1 := World.ownsRow.stored h o v
    obtain ⟨ys, h2, h3, h4⟩ := OwnN.cleared vs (o + 1) (w.setCell ⟨g, o, none⟩ v) _ h1.1
    refine ⟨ys, h2, fun j hj => ?_, grown_trans h1.2 h4⟩
    rw [h3 j (by omega), List.getElem?_set_ne (by omega)]
end Go.Proofs.Ytkbceojeahninaa
