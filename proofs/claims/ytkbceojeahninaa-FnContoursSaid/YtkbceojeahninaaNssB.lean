/- Copies and comparisons of slices of slices of notes; whether all are tunes. -/
import Derived.Test.YtkbceojeahninaaNss
import Derived.Test.YtkbceojeahninaaTune
import Derived.Deep.Cut
namespace Go.Proofs.Ytkbceojeahninaa
open Go.ChangeShapes Go.WideShapes Go.ChangeAt Go.RowKit
set_option linter.unusedVariables false
/-- A row of one-cell values that the call owns. -/
def OwnV (e B : Nat) (w : World) (v : Value) (vs : List Value) : Prop := w.ownsRow B e 1 v vs.length vs
theorem OwnV.below {e B B' : Nat} {w w' : World} {v : Value} {l : List Value} (h : OwnV e B' w v l) (hb : Below B w w') (hB : B = w.heap.size) : OwnV e B' w' v l := ownsRow_below h hb hB
theorem OwnV.blk {e B : Nat} {w : World} {v : Value} {L : List Value} (h : OwnV e B w v L) : ∀ k, v.ownBlock = some k → B ≤ k ∧ k < w.heap.size := World.ownsRow.lt h
theorem OwnV.head {e B : Nat} {w : World} {g n c : Nat} {L : List Value} (h : OwnV e B w (.slice (some ⟨g, 0, none⟩) n c) L) :
    B ≤ g ∧ g < w.heap.size ∧ (∀ j, w.cell? ⟨g, j, none⟩ = L[j]? ∨ L.length ≤ j) ∧ ∀ j, w.frozen? ⟨g, j, none⟩ = false := by
  rcases h.2 with ⟨h', hn⟩ | ⟨g', cap, cur, h', hBg, hh, _⟩
  · cases h'
  · injection h' with h1 h2 h3
    injection h1 with h1
    injection h1 with h1
    subst h1 h2 h3
    refine ⟨hBg, (Array.getElem?_eq_some_iff.1 hh).1, fun j => ?_, fun j => frozen_of_row w g j cur e hh⟩
    by_cases hj : j < L.length
    · exact Or.inl (World.ownsRow.cellAt h j (by omega))
    · exact Or.inr (by omega)
theorem OwnV.stored {e B : Nat} {w : World} {g n c : Nat} {L : List Value} (h : OwnV e B w (.slice (some ⟨g, 0, none⟩) n c) L) (j : Nat) (y : Value) :
    OwnV e B (w.setCell ⟨g, j, none⟩ y) (.slice (some ⟨g, 0, none⟩) n c) (L.set j y) ∧ w.grownBy (w.setCell ⟨g, j, none⟩ y) (some g) := by
  have hn : n = L.length := by
    rcases h.2 with ⟨h', _⟩ | ⟨g', cap', cur, h', _⟩
    · cases h'
    · injection h'
  subst hn
  have := World.ownsRow.stored h j y
  refine ⟨?_, this.2⟩
  unfold OwnV
  rw [List.length_set]
  exact this.1
section
variable {P : Program} {ops : Array Oper} {rest : List Oper} {o : Oper} {a : Act} {Q : Exit → Act → World → Prop} {W : World}
/-- make([][]Pair, n). -/
theorem make_slices (hg : o.guard = none) (l c : Operand) (t : TypeId) (hop : o.op = Op.makeSlice t l c) (e : TypeId) (ht : P.underlying t = some (.slice e))
    (hI : (P.info? e).map (fun i => (i.zero, i.size, i.bytes)) = some (some (.slice none 0 0), 1, 24)) (B n : Nat) (hl : a.eval l = .int .i64 (n : Int)) (hc : a.eval c = .int .i64 (n : Int)) (hn : n ≤ 1000000000) (hB : B ≤ W.heap.size)
    (hK : ∀ w', OwnV e B w' (.slice (some ⟨W.heap.size, 0, none⟩) n n) (List.replicate n (.slice none 0 0)) → Below B W w' → W.heap.size < w'.heap.size → wpList P ops Q rest (a.put o.dst (.slice (some ⟨W.heap.size, 0, none⟩) n n)) w') : wpList P ops Q (o :: rest) a W := by
  obtain ⟨i, hi, hz, hsz, hby⟩ := info_parts hI
  refine wpList_make_full W hg l c t hop B e i (.slice none 0 0) 1 ht hi hz hsz .i64 .i64 n n n hl hc rfl rfl (by rw [hby]; omega) (by unfold maxLen; omega) hB fun w' h1 h2 => ?_
  have ho : OwnV e B w' (.slice (some ⟨W.heap.size, 0, none⟩) n n) (List.replicate n (.slice none 0 0)) := by
    unfold OwnV
    rw [List.length_replicate, ← toList_madeCells_one]
    simpa [Value.cells] using h1
  exact hK w' ho ((Below.refl B W).grown h2 hB (fun k hk => by cases hk)) (ho.blk _ rfl).2
end
def RetNS (B : Nat) (ls : List (List (Int × Int))) (w : World) (en : Ending) (w' : World) : Prop :=
  ∃ A c, en = .returned (.slice A ls.length c) ∧ ls.length ≤ c ∧ c ≤ maxLen ∧ RdNS w' A ls ∧ Below B w w'
/-- The first k slots of a row hold copies of the first k lists, in blocks from B on. -/
def FilNS (e B : Nat) (w : World) (ls : List (List (Int × Int))) (vs : List Value) (k : Nat) : Prop :=
  ∀ j, j < k → ∃ A' c', vs[j]? = some (.slice A' (nt ls j).length c') ∧ (nt ls j).length ≤ c' ∧ c' ≤ maxLen ∧ OwnN e B w (.slice A' (nt ls j).length c') (nt ls j)
theorem FilNS.below {e B : Nat} {w w' : World} {ls : List (List (Int × Int))} {vs : List Value} {k : Nat} (h : FilNS e B w ls vs k) (hb : Below w.heap.size w w') : FilNS e B w' ls vs k := by
  intro j hj
  obtain ⟨A', c', h1, h2, h3, h4⟩ := h j hj
  exact ⟨A', c', h1, h2, h3, h4.below hb rfl⟩
theorem FilNS.put {e B : Nat} {w : World} {ls : List (List (Int × Int))} {vs : List Value} {k : Nat} (h : FilNS e B w ls vs k) (hk : k < vs.length) {g : Nat} (hg : g < B) {A' : Option Addr} {c' : Nat} (h2 : (nt ls k).length ≤ c') (h3 : c' ≤ maxLen) (h4 : OwnN e B w (.slice A' (nt ls k).length c') (nt ls k)) :
    FilNS e B (w.setCell ⟨g, k, none⟩ (.slice A' (nt ls k).length c')) ls (vs.set k (.slice A' (nt ls k).length c')) (k + 1) := by
  intro j hj
  by_cases he : j = k
  · subst he
    exact ⟨A', c', by rw [List.getElem?_set_self hk], h2, h3, h4.setBelow (by exact hg) _⟩
  · obtain ⟨A'', c'', q1, q2, q3, q4⟩ := h j (by omega)
    exact ⟨A'', c'', by rw [List.getElem?_set_ne (Ne.symm he)]; exact q1, q2, q3, q4.setBelow (by exact hg) _⟩
theorem held2_keep {w v u : World} {p1 p2 : Addr} {u1 u2 : Value} (l1 : p1.block < w.heap.size) (l2 : p2.block < w.heap.size)
    (h : v.cell? p1 = some u1 ∧ v.cell? p2 = some u2 ∧ Below w.heap.size w v) (hb : Below v.heap.size v u) :
    u.cell? p1 = some u1 ∧ u.cell? p2 = some u2 ∧ Below w.heap.size w u := by
  obtain ⟨h1, h2, h5⟩ := h
  have hs := h5.size
  exact ⟨(hb.cell (by omega)).trans h1, (hb.cell (by omega)).trans h2, h5.trans (hb.mono hs)⟩
theorem held2_bel {w v : World} {p1 p2 : Addr} {u1 u2 : Value} (h : v.cell? p1 = some u1 ∧ v.cell? p2 = some u2 ∧ Below w.heap.size w v) : Below w.heap.size w v := h.2.2
def allOk (ls : List (List (Int × Int))) (k : Nat) : Prop := ∀ j, j < k → tuneB (nt ls j) = true
noncomputable instance (ls : List (List (Int × Int))) (k : Nat) : Decidable (allOk ls k) := Classical.propDecidable _
noncomputable def areB (ls : List (List (Int × Int))) (m : Int) : Bool := decide ((ls.length : Int) ≤ m) && decide (allOk ls ls.length)
attribute [local irreducible] nt tuneB in
set_option maxHeartbeats 800000 in
theorem areTunes_any (A : Option Addr) (c : Nat) (ls : List (List (Int × Int))) (m : Int) (w : World) (hrd : RdNS w A ls) (hl : ls.length ≤ 1000000000) (hn : ∀ k, k < ls.length → (nt ls k).length ≤ 1000000000) :
    Calls Try.prog 68 #[.slice A ls.length c, .int .i64 m] w fun e w' => e = .returned (.bool (areB ls m)) ∧ Below w.heap.size w w' := by
  have HNL := Lib.hid hn
  clear hn
  by_cases hm : (ls.length : Int) ≤ m
  · have hm' : ¬ m < (ls.length : Int) := by omega
    have HA := Lib.hid (show areB ls m = decide (allOk ls ls.length) by unfold areB; rw [decide_eq_true hm]; rfl)
    go_enter Try.func68, Try.ntmps68
    go_wp2
    go_loopw [13] (fun i wr => ∃ k : Nat, k ≤ ls.length ∧ i = .int .i64 k ∧ allOk ls k ∧ Below w.heap.size w wr) (fun i _ => ls.length - (intOf i).toNat)
    case atStart => exact ⟨0, by omega, rfl, fun _ h => by omega, Below.refl _ _⟩
    case round =>
      obtain ⟨k, hk, rfl, hM, hb⟩ := hrel
      have HM := Lib.hid hM
      clear hM
      by_cases hlt : k < ls.length
      · obtain ⟨b1, o1, rfl, l1, hc1⟩ := hrd (by omega)
        obtain ⟨A1, c1, p1, _, _, p4⟩ := hc1 k hlt
        have k1 := (hb.cell (p := ⟨b1, o1 + k, none⟩) l1).trans p1
        have hnl := HNL.out k hlt
        have rk := p4.below hb rfl
        clear hc1 p1 p4
        go_wp2_with fail
        refine (impl_TuneOk _ _ _ _ rk hnl).mono ?_
        rintro e w2 ⟨rfl, hb2⟩
        have hb3 := hb.trans (hb2.mono hb.size)
        cases hT : tuneB (nt ls k)
        · have HF := Lib.hid (HA.out.trans (decide_eq_false (fun h => by have h2 := h k hlt; rw [hT] at h2; cases h2)))
          clear hT
          go_wp2
          go_ret
          exact ⟨ret_bool HF.out.symm, hb3⟩
        · have HG := Lib.hid (show allOk ls (k + 1) from fun j hj => by
            by_cases e : j = k
            · subst e; exact hT
            · exact HM.out j (by omega))
          clear hT
          go_wp2
          go_roundw
          case rel => exact ⟨k + 1, by omega, by go_num, HG.out, hb3⟩
          case measure => simp [intOf]; omega
      · obtain rfl : k = ls.length := by omega
        have HF := Lib.hid (HA.out.trans (decide_eq_true HM.out))
        go_wp2
        go_ret
        exact ⟨ret_bool HF.out.symm, hb⟩
  · have hm' : m < (ls.length : Int) := by omega
    have HA := Lib.hid (show areB ls m = false by unfold areB; rw [decide_eq_false hm]; rfl)
    go_enter Try.func68, Try.ntmps68
    go_wp2
    go_ret
    exact ⟨ret_bool HA.out.symm, Below.refl _ _⟩
end Go.Proofs.Ytkbceojeahninaa
