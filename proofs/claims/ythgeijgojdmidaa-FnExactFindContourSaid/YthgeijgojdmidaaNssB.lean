/- Copies and comparisons of slices of slices of notes; whether all are tunes. -/
import Derived.Test.YthgeijgojdmidaaNss
import Derived.Test.YthgeijgojdmidaaTune
import Derived.Deep.Cut
namespace Go.Proofs.Ythgeijgojdmidaa
open Go.ChangeShapes Go.WideShapes Go.ChangeAt Go.RowKit
set_option linter.unusedVariables false
/-- A row of one-cell values that the call owns. -/
def OwnV (e B : Nat) (w : World) (v : Value) (vs : List Value) : Prop := w.ownsRow B e 1 v vs.length vs
theorem OwnV.below {e B B' : Nat} {w w' : World} {v : Value} {l : List Value} (h : OwnV e B' w v l) (hb : Below B w w') (hB : B = w.heap.size) : OwnV e B' w' v l := ownsRow_below h hb hB
theorem OwnV.blk {e B : Nat} {w : World} {v : Value} {L : List Value} (h : OwnV e B w v L) : ∀ k, v.ownBlock = some k → B ≤ k ∧ k < w.heap.size := World.ownsRow.lt h
theorem OwnV.head {e B : Nat} {w : World} {g n c : Nat} {L : List Value} (h : OwnV e B w (.slice (some ⟨g, 0, none⟩) n c) L) :
    B ≤ g ∧ g < w.heap.size ∧ (∀ j, w.cell? ⟨g, j, none⟩ = L[j]? ∨ L.length ≤ j) ∧ ∀ j, w.frozen? ⟨g, j, none⟩ = false := by
  rcases h.2 with ⟨h', hn⟩ | ⟨g', cap, cur, h', hBg, hh, _⟩
  · cases h'
  · injection h' with h1 h2 h3
    injection h1 with h1
    injection h1 with h1
    subst h1 h2 h3
    refine ⟨hBg, (Array.getElem?_eq_some_iff.1 hh).1, fun j => ?_, fun j => frozen_of_row w g j cur e hh⟩
    by_cases hj : j < L.length
    · exact Or.inl (World.ownsRow.cellAt h j (by omega))
    · exact Or.inr (by omega)
theorem OwnV.stored {e B : Nat} {w : World} {g n c : Nat} {L : List Value} (h : OwnV e B w (.slice (some ⟨g, 0, none⟩) n c) L) (j : Nat) (y : Value) :
    OwnV e B (w.setCell ⟨g, j, none⟩ y) (.slice (some ⟨g, 0, none⟩) n c) (L.set j y) ∧ w.grownBy (w.setCell ⟨g, j, none⟩ y) (some g) := by
  have hn : n = L.length := by
    rcases h.2 with ⟨h', _⟩ | ⟨g', cap', cur, h', _⟩
    · cases h'
    · injection h'
  subst hn
  have := World.ownsRow.stored h j y
  refine ⟨?_, this.2⟩
  unfold OwnV
  rw [List.length_set]
  exact this.1
section
variable {P : Program} {ops : Array Oper} {rest : List Oper} {o : Oper} {a : Act} {Q : Exit → Act → World → Prop} {W : World}
/-- make([][]Pair, n). -/
theorem make_slices (hg : o.guard = none) (l c : Operand) (t : TypeId) (hop : o.op = Op.makeSlice t l c) (e : TypeId) (ht : P.underlying t = some (.slice e))
    (hI : (P.info? e).map (fun i => (i.zero, i.size, i.bytes)) = some (some (.slice none 0 0), 1, 24)) (B n : Nat) (hl : a.eval l = .int .i64 (n : Int)) (hc : a.eval c = .int .i64 (n : Int)) (hn : n ≤ 1000000000) (hB : B ≤ W.heap.size)
    (hK : ∀ w', OwnV e B w' (.slice (some ⟨W.heap.size, 0, none⟩) n n) (List.replicate n (.slice none 0 0)) → Below B W w' → W.heap.size < w'.heap.size → wpList P ops Q rest (a.put o.dst (.slice (some ⟨W.heap.size, 0, none⟩) n n)) w') : wpList P ops Q (o :: rest) a W := by
  obtain ⟨i, hi, hz, hsz, hby⟩ := info_parts hI
  refine wpList_make_full W hg l c t hop B e i (.slice none 0 0) 1 ht hi hz hsz .i64 .i64 n n n hl hc rfl rfl (by rw [hby]; omega) (by unfold maxLen; omega) hB fun w' h1 h2 => ?_
  have ho : OwnV e B w' (.slice (some ⟨W.heap.size, 0, none⟩) n n) (List.replicate n (.slice none 0 0)) := by
    unfold OwnV
    rw [List.length_replicate, ← toList_madeCells_one]
    simpa [Value.cells] using h1
  exact hK w' ho ((Below.refl B W).grown h2 hB (fun k hk => by cases hk)) (ho.blk _ rfl).2
end
def RetNS (B : Nat) (ls : List (List (Int × Int))) (w : World) (en : Ending) (w' : World) : Prop :=
  ∃ A c, en = .returned (.slice A ls.length c) ∧ ls.length ≤ c ∧ c ≤ maxLen ∧ RdNS w' A ls ∧ Below B w w'
/-- The first k slots of a row hold copies of the first k lists, in blocks from B on. -/
def FilNS (e B : Nat) (w : World) (ls : List (List (Int × Int))) (vs : List Value) (k : Nat) : Prop :=
  ∀ j, j < k → ∃ A' c', vs[j]? = some (.slice A' (nt ls j).length c') ∧ (nt ls j).length ≤ c' ∧ c' ≤ maxLen ∧ OwnN e B w (.slice A' (nt ls j).length c') (nt ls j)
theorem FilNS.below {e B : Nat} {w w' : World} {ls : List (List (Int × Int))} {vs : List Value} {k : Nat} (h : FilNS e B w ls vs k) (hb : Below w.heap.size w w') : FilNS e B w' ls vs k := by
  intro j hj
  obtain ⟨A', c', h1, h2, h3, h4⟩ := h j hj
  exact ⟨A', c', h1, h2, h3, h4.below hb rfl⟩
theorem FilNS.put {e B : Nat} {w : World} {ls : List (List (Int × Int))} {vs : List Value} {k : Nat} (h : FilNS e B w ls vs k) (hk : k < vs.length) {g : Nat} (hg : g < B) {A' : Option Addr} {c' : Nat} (h2 : (nt ls k).length ≤ c') (h3 : c' ≤ maxLen) (h4 : OwnN e B w (.slice A' (nt ls k).length c') (nt ls k)) :
    FilNS e B (w.setCell ⟨g, k, none⟩ (.slice A' (nt ls k).length c')) ls (vs.set k (.slice A' (nt ls k).length c')) (k + 1) := by
  intro j hj
  by_cases he : j = k
  · subst he
    exact ⟨A', c', by rw [List.getElem?_set_self hk], h2, h3, h4.setBelow (by exact hg) _⟩
  · obtain ⟨A'', c'', q1, q2, q3, q4⟩ := h j (by omega)
    exact ⟨A'', c'', by rw [List.getElem?_set_ne (Ne.symm he)]; exact q1, q2, q3, q4.setBelow (by exact hg) _⟩
attribute [local irreducible] nt in
set_option maxHeartbeats 800000 in
theorem toNoteSS_any (A : Option Addr) (c : Nat) (ls : List (List (Int × Int))) (w : World) (hrd : RdNS w A ls) (hl : ls.length ≤ 1000000000) (hn : ∀ k, k < ls.length → (nt ls k).length ≤ 1000000000) :
    Calls Try.prog 51 #[.slice A ls.length c] w (RetNS w.heap.size ls w) := by
  have HNL := Lib.hid hn
  clear hn
  go_enter Try.func51, Try.ntmps51
  go_wp2_with (at_make; refine make_slices rfl _ _ 65 rfl 43 Try.underlying65 (by kernel_rfl) w.heap.size ls.length rfl rfl hl (Nat.le_refl _) ?_; intro w1 hown hb1 hz1)
  go_loopw [4] (fun i wr => ∃ (k : Nat) (vs : List Value), k ≤ ls.length ∧ i = .int .i64 k ∧ vs.length = ls.length ∧ FilNS 59 (w.heap.size + 1) wr ls vs k ∧ OwnV 43 w.heap.size wr (.slice (some ⟨w.heap.size, 0, none⟩) ls.length ls.length) vs ∧ Below w.heap.size w wr ∧ w.heap.size < wr.heap.size) (fun i _ => ls.length - (intOf i).toNat)
  case atStart => exact ⟨0, _, by omega, rfl, List.length_replicate, fun j h => by omega, hown, hb1, hz1⟩
  case round =>
    clear hown
    obtain ⟨k, vs, hk, rfl, hL, hF, ho, hb, hz⟩ := hrel
    have HL := Lib.hid hL
    have HF := Lib.hid hF
    clear hL hF
    by_cases hlt : k < ls.length
    · obtain ⟨b, off, rfl, hbl, hcl⟩ := hrd (by omega)
      obtain ⟨A', c', k1, k2, k3, k4⟩ := hcl k hlt
      have c1 := (hb.cell (p := ⟨b, off + k, none⟩) hbl).trans k1
      have rk := k4.below hb rfl
      have hnl := HNL.out k hlt
      clear hcl k1 k4
      go_wp2_with fail
      refine (toNoteS_any _ _ _ _ rk (by omega)).mono ?_
      rintro e w2 ⟨A2, c2, rfl, ho2, hc2, hm2, _, hr2, hb2⟩
      have ho3 := ho.below hb2 rfl
      have hb02 := hb.trans (hb2.mono hb.size)
      have hF2 := HF.out.below hb2
      obtain ⟨hBg, hgl, hcg, hfg⟩ := ho3.head
      have f1 := hfg k
      have q1 : ∃ u, w2.cell? ⟨w.heap.size, k, none⟩ = some u := by
        rcases hcg k with h | h
        · have hkl : k < vs.length := by rw [HL.out]; exact hlt
          rw [List.getElem?_eq_getElem hkl] at h
          exact ⟨_, h⟩
        · rw [HL.out] at h; omega
      obtain ⟨u, q1⟩ := q1
      have hst := ho3.stored k (.slice A2 (nt ls k).length c2)
      have HS := Lib.hid hst.1
      have HFP := Lib.hid (hF2.put (by rw [HL.out]; exact hlt) (show w.heap.size < w.heap.size + 1 by omega) hc2 hm2 (ho2.base_le (by omega)))
      have HB := Lib.hid (hb02.trans (grown_Below hst.2 hb02.size (fun q hq => by injection hq with hq; omega)))
      have HZ := Lib.hid (show w.heap.size < (w2.setCell ⟨w.heap.size, k, none⟩ (.slice A2 (nt ls k).length c2)).heap.size by simp; omega)
      clear hcg hfg hst ho ho2 ho3 hb hb2 hb02 hrd c1 hF2 hr2 rk hc2 hm2
      go_wp2
      go_roundw
      case rel => exact ⟨k + 1, _, by omega, by go_num, by rw [List.length_set]; exact HL.out, HFP.out, HS.out, HB.out, HZ.out⟩
      case measure => simp [intOf]; omega
    · obtain rfl : k = ls.length := by omega
      go_wp2
      go_ret
      refine ⟨some ⟨w.heap.size, 0, none⟩, ls.length, rfl, Nat.le_refl _, by unfold maxLen; omega, fun hp => ?_, hb⟩
      obtain ⟨hBg, hgl, hcg, _⟩ := ho.head
      refine ⟨w.heap.size, 0, rfl, hgl, fun j hj => ?_⟩
      obtain ⟨A', c', q1, q2, q3, q4⟩ := HF.out j hj
      refine ⟨A', c', ?_, q2, q3, q4.rdA⟩
      rw [Nat.zero_add]
      rcases hcg j with h | h
      · rw [h]; exact q1
      · rw [HL.out] at h; omega
theorem held2_keep {w v u : World} {p1 p2 : Addr} {u1 u2 : Value} (l1 : p1.block < w.heap.size) (l2 : p2.block < w.heap.size)
    (h : v.cell? p1 = some u1 ∧ v.cell? p2 = some u2 ∧ Below w.heap.size w v) (hb : Below v.heap.size v u) :
    u.cell? p1 = some u1 ∧ u.cell? p2 = some u2 ∧ Below w.heap.size w u := by
  obtain ⟨h1, h2, h5⟩ := h
  have hs := h5.size
  exact ⟨(hb.cell (by omega)).trans h1, (hb.cell (by omega)).trans h2, h5.trans (hb.mono hs)⟩
theorem held2_bel {w v : World} {p1 p2 : Addr} {u1 u2 : Value} (h : v.cell? p1 = some u1 ∧ v.cell? p2 = some u2 ∧ Below w.heap.size w v) : Below w.heap.size w v := h.2.2
attribute [local irreducible] nt in
set_option maxHeartbeats 800000 in
theorem eqNoteSS_same (A B : Option Addr) (c d : Nat) (ls : List (List (Int × Int))) (w : World) (hA : RdNS w A ls) (hB : RdNS w B ls) (hl : ls.length ≤ 1000000000) (hn : ∀ k, k < ls.length → (nt ls k).length ≤ 1000000000) :
    Calls Try.prog 53 #[.slice A ls.length c, .slice B ls.length d] w fun e w' => e = .returned (.bool true) ∧ Below w.heap.size w w' := by
  have HNL := Lib.hid hn
  clear hn
  go_enter Try.func53, Try.ntmps53
  go_wp2
  go_loopw [5] (fun i wr => ∃ k : Nat, k ≤ ls.length ∧ i = .int .i64 k ∧ Below w.heap.size w wr) (fun i _ => ls.length - (intOf i).toNat)
  case atStart => exact ⟨0, by omega, rfl, Below.refl _ _⟩
  case round =>
    obtain ⟨k, hk, rfl, hb⟩ := hrel
    by_cases hlt : k < ls.length
    · obtain ⟨b1, o1, rfl, l1, hc1⟩ := hA (by omega)
      obtain ⟨b2, o2, rfl, l2, hc2⟩ := hB (by omega)
      obtain ⟨A1, c1, p1, _, _, p4⟩ := hc1 k hlt
      obtain ⟨A2, c2, q1, _, _, q4⟩ := hc2 k hlt
      have k1 := (hb.cell (p := ⟨b1, o1 + k, none⟩) l1).trans p1
      have k2 := (hb.cell (p := ⟨b2, o2 + k, none⟩) l2).trans q1
      have hnl := HNL.out k hlt
      have h0a : (0 : Int) ≤ (k : Int) := by omega
      have h0b : (k : Int) < (ls.length : Int) := by omega
      have m1 := Nat.lt_of_lt_of_le l1 hb.size
      have m2 := Nat.lt_of_lt_of_le l2 hb.size
      have HQ := Lib.hid (fun w' (h : Below wr.heap.size wr w') => And.intro ((p4.below hb rfl).below h rfl) ((q4.below hb rfl).below h rfl))
      clear hc1 hc2 p1 q1 p4 q4
      go_wp2_with fail
      go_region_held3 (fun w' => w'.cell? ⟨b1, o1 + k, none⟩ = some (.slice A1 (nt ls k).length c1) ∧ w'.cell? ⟨b2, o2 + k, none⟩ = some (.slice A2 (nt ls k).length c2) ∧ Below wr.heap.size wr w')
        (first | exact ⟨k1, k2, (Below.refl _ _).drew⟩ | exact held2_keep m1 m2 (by assumption) hbz)
        (first | (go_at_call 31; refine (eqNoteS_same _ _ _ _ (nt ls k) _ (HQ.out _ (held2_bel (by assumption))).1 (HQ.out _ (held2_bel (by assumption))).2 hnl).mono ?_; rintro e wz ⟨rfl, hbz⟩))
      rename_i hH
      have hb2 := hb.trans ((held2_bel hH).mono hb.size)
      go_wp2
      go_roundw
      case rel => exact ⟨k + 1, by omega, by go_num, hb2⟩
      case measure => simp [intOf]; omega
    · go_wp2
      go_ret
      exact ⟨rfl, hb⟩
def allOk (ls : List (List (Int × Int))) (k : Nat) : Prop := ∀ j, j < k → tuneB (nt ls j) = true
noncomputable instance (ls : List (List (Int × Int))) (k : Nat) : Decidable (allOk ls k) := Classical.propDecidable _
noncomputable def areB (ls : List (List (Int × Int))) (m : Int) : Bool := decide ((ls.length : Int) ≤ m) && decide (allOk ls ls.length)
attribute [local irreducible] nt tuneB in
set_option maxHeartbeats 800000 in
theorem areTunes_any (A : Option Addr) (c : Nat) (ls : List (List (Int × Int))) (m : Int) (w : World) (hrd : RdNS w A ls) (hl : ls.length ≤ 1000000000) (hn : ∀ k, k < ls.length → (nt ls k).length ≤ 1000000000) :
    Calls Try.prog 105 #[.slice A ls.length c, .int .i64 m] w fun e w' => e = .returned (.bool (areB ls m)) ∧ Below w.heap.size w w' := by
  have HNL := Lib.hid hn
  clear hn
  by_cases hm : (ls.length : Int) ≤ m
  · have hm' : ¬ m < (ls.length : Int) := by omega
    have HA := Lib.hid (show areB ls m = decide (allOk ls ls.length) by unfold areB; rw [decide_eq_true hm]; rfl)
    go_enter Try.func105, Try.ntmps105
    go_wp2
    go_loopw [13] (fun i wr => ∃ k : Nat, k ≤ ls.length ∧ i = .int .i64 k ∧ allOk ls k ∧ Below w.heap.size w wr) (fun i _ => ls.length - (intOf i).toNat)
    case atStart => exact ⟨0, by omega, rfl, fun _ h => by omega, Below.refl _ _⟩
    case round =>
      obtain ⟨k, hk, rfl, hM, hb⟩ := hrel
      have HM := Lib.hid hM
      clear hM
      by_cases hlt : k < ls.length
      · obtain ⟨b1, o1, rfl, l1, hc1⟩ := hrd (by omega)
        obtain ⟨A1, c1, p1, _, _, p4⟩ := hc1 k hlt
        have k1 := (hb.cell (p := ⟨b1, o1 + k, none⟩) l1).trans p1
        have hnl := HNL.out k hlt
        have rk := p4.below hb rfl
        clear hc1 p1 p4
        go_wp2_with fail
        refine (impl_TuneOk _ _ _ _ rk hnl).mono ?_
        rintro e w2 ⟨rfl, hb2⟩
        have hb3 := hb.trans (hb2.mono hb.size)
        cases hT : tuneB (nt ls k)
        · have HF := Lib.hid (HA.out.trans (decide_eq_false (fun h => by have h2 := h k hlt; rw [hT] at h2; cases h2)))
          clear hT
          go_wp2
          go_ret
          exact ⟨ret_bool HF.out.symm, hb3⟩
        · have HG := Lib.hid (show allOk ls (k + 1) from fun j hj => by
            by_cases e : j = k
            · subst e; exact hT
            · exact HM.out j (by omega))
          clear hT
          go_wp2
          go_roundw
          case rel => exact ⟨k + 1, by omega, by go_num, HG.out, hb3⟩
          case measure => simp [intOf]; omega
      · obtain rfl : k = ls.length := by omega
        have HF := Lib.hid (HA.out.trans (decide_eq_true HM.out))
        go_wp2
        go_ret
        exact ⟨ret_bool HF.out.symm, hb⟩
  · have hm' : m < (ls.length : Int) := by omega
    have HA := Lib.hid (show areB ls m = false by unfold areB; rw [decide_eq_false hm]; rfl)
    go_enter Try.func105, Try.ntmps105
    go_wp2
    go_ret
    exact ⟨ret_bool HA.out.symm, Below.refl _ _⟩
end Go.Proofs.Ythgeijgojdmidaa
