/- Copies of slices of slices of notes whose rows lie apart, and marks in them. -/
import Derived.Test.YthgeijgojdmidaaNssB
namespace Go.Proofs.Ythgeijgojdmidaa
open Go.ChangeShapes Go.WideShapes Go.ChangeAt Go.RowKit
set_option linter.unusedVariables false
def obk (vs : List Value) (i : Nat) : Option Nat := match vs[i]? with
  | some v => v.ownBlock
  | none => none
def DisV (vs : List Value) (k : Nat) : Prop := ∀ i j, i < j → j < k → ∀ g, obk vs i = some g → obk vs j ≠ some g
theorem obk_at {vs : List Value} {i : Nat} {v : Value} (h : vs[i]? = some v) : obk vs i = v.ownBlock := by unfold obk; rw [h]
theorem obk_set {vs : List Value} {k : Nat} {v : Value} (hk : k < vs.length) (i : Nat) : obk (vs.set k v) i = if i = k then v.ownBlock else obk vs i := by
  unfold obk
  by_cases h : i = k
  · subst h; rw [List.getElem?_set_self hk, if_pos rfl]
  · rw [List.getElem?_set_ne (Ne.symm h), if_neg h]
theorem FilNS.obk_lt {e B : Nat} {w : World} {ls : List (List (Int × Int))} {vs : List Value} {k i g : Nat} (h : FilNS e B w ls vs k) (hi : i < k) (hg : obk vs i = some g) : B ≤ g ∧ g < w.heap.size := by
  obtain ⟨A', c', h1, _, _, h4⟩ := h i hi
  rw [obk_at h1] at hg
  exact h4.blk g hg
theorem DisV.put {e B : Nat} {w : World} {ls : List (List (Int × Int))} {vs : List Value} {k : Nat} {v : Value} (h : DisV vs k) (hf : FilNS e B w ls vs k) (hk : k < vs.length) (hv : ∀ g, v.ownBlock = some g → w.heap.size ≤ g) : DisV (vs.set k v) (k + 1) := by
  intro i j hij hj g hg
  rw [obk_set hk] at hg ⊢
  rw [if_neg (by omega)] at hg
  by_cases e : j = k
  · rw [if_pos e]
    intro h2
    have := hv g h2
    have := (hf.obk_lt (by omega) hg).2
    omega
  · rw [if_neg e]
    exact h i j hij (by omega) g hg
/-- A new slice of new slices, its rows apart. -/
def RetMS (eS e B : Nat) (ls : List (List (Int × Int))) (w : World) (en : Ending) (w' : World) : Prop :=
  ∃ g c vs, en = .returned (.slice (some ⟨g, 0, none⟩) ls.length c) ∧ vs.length = ls.length ∧ OwnV eS B w' (.slice (some ⟨g, 0, none⟩) ls.length c) vs ∧ FilNS e (g + 1) w' ls vs ls.length ∧ DisV vs ls.length ∧ RdNS w' (some ⟨g, 0, none⟩) ls ∧ ls.length ≤ c ∧ c ≤ maxLen ∧ Below B w w'
theorem rdns_of {eS e B g c : Nat} {w : World} {ls : List (List (Int × Int))} {vs : List Value} (hl : vs.length = ls.length) (ho : OwnV eS B w (.slice (some ⟨g, 0, none⟩) ls.length c) vs) (hF : FilNS e (g + 1) w ls vs ls.length) : RdNS w (some ⟨g, 0, none⟩) ls := by
  intro _
  obtain ⟨hBg, hgl, hcg, _⟩ := ho.head
  refine ⟨g, 0, rfl, hgl, fun j hj => ?_⟩
  obtain ⟨A', c', q1, q2, q3, q4⟩ := hF j hj
  refine ⟨A', c', ?_, q2, q3, q4.rdA⟩
  rw [Nat.zero_add]
  rcases hcg j with h | h
  · rw [h]; exact q1
  · rw [hl] at h; omega
attribute [local irreducible] nt in
set_option maxHeartbeats 800000 in
theorem toNoteSSm_any (A : Option Addr) (c : Nat) (ls : List (List (Int × Int))) (w : World) (hrd : RdNS w A ls) (hl : ls.length ≤ 1000000000) (hn : ∀ k, k < ls.length → (nt ls k).length ≤ 1000000000) :
    Calls Try.prog 51 #[.slice A ls.length c] w (RetMS 43 59 w.heap.size ls w) := by
  have HNL := Lib.hid hn
  clear hn
  go_enter Try.func51, Try.ntmps51
  go_wp2_with (at_make; refine make_slices rfl _ _ 65 rfl 43 Try.underlying65 (by kernel_rfl) w.heap.size ls.length rfl rfl hl (Nat.le_refl _) ?_; intro w1 hown hb1 hz1)
  go_loopw [4] (fun i wr => ∃ (k : Nat) (vs : List Value), k ≤ ls.length ∧ i = .int .i64 k ∧ vs.length = ls.length ∧ FilNS 59 (w.heap.size + 1) wr ls vs k ∧ DisV vs k ∧ OwnV 43 w.heap.size wr (.slice (some ⟨w.heap.size, 0, none⟩) ls.length ls.length) vs ∧ Below w.heap.size w wr ∧ w.heap.size < wr.heap.size) (fun i _ => ls.length - (intOf i).toNat)
  case atStart => exact ⟨0, _, by omega, rfl, List.length_replicate, fun j h => by omega, fun i j h1 h2 => by omega, hown, hb1, hz1⟩
  case round =>
    clear hown
    obtain ⟨k, vs, hk, rfl, hL, hF, hD, ho, hb, hz⟩ := hrel
    have HL := Lib.hid hL
    have HF := Lib.hid hF
    have HD := Lib.hid hD
    clear hL hF hD
    by_cases hlt : k < ls.length
    · obtain ⟨b, off, rfl, hbl, hcl⟩ := hrd (by omega)
      obtain ⟨A', c', k1, k2, k3, k4⟩ := hcl k hlt
      have c1 := (hb.cell (p := ⟨b, off + k, none⟩) hbl).trans k1
      have rk := k4.below hb rfl
      have hnl := HNL.out k hlt
      clear hcl k1 k4
      go_wp2_with fail
      refine (toNoteS_any _ _ _ _ rk (by omega)).mono ?_
      rintro e w2 ⟨A2, c2, rfl, ho2, hc2, hm2, _, hr2, hb2⟩
      have ho3 := ho.below hb2 rfl
      have hb02 := hb.trans (hb2.mono hb.size)
      have hF2 := HF.out.below hb2
      obtain ⟨hBg, hgl, hcg, hfg⟩ := ho3.head
      have f1 := hfg k
      have q1 : ∃ u, w2.cell? ⟨w.heap.size, k, none⟩ = some u := by
        rcases hcg k with h | h
        · have hkl : k < vs.length := by rw [HL.out]; exact hlt
          rw [List.getElem?_eq_getElem hkl] at h
          exact ⟨_, h⟩
        · rw [HL.out] at h; omega
      obtain ⟨u, q1⟩ := q1
      have hst := ho3.stored k (.slice A2 (nt ls k).length c2)
      have HS := Lib.hid hst.1
      have HFP := Lib.hid (hF2.put (by rw [HL.out]; exact hlt) (show w.heap.size < w.heap.size + 1 by omega) hc2 hm2 (ho2.base_le (by omega)))
      have HDP := Lib.hid (HD.out.put (v := .slice A2 (nt ls k).length c2) HF.out (by rw [HL.out]; exact hlt) (fun q hq => (ho2.blk q hq).1))
      have HB := Lib.hid (hb02.trans (grown_Below hst.2 hb02.size (fun q hq => by injection hq with hq; omega)))
      have HZ := Lib.hid (show w.heap.size < (w2.setCell ⟨w.heap.size, k, none⟩ (.slice A2 (nt ls k).length c2)).heap.size by simp; omega)
      clear hcg hfg hst ho ho2 ho3 hb hb2 hb02 hrd c1 hF2 hr2 rk hc2 hm2
      go_wp2
      go_roundw
      case rel => exact ⟨k + 1, _, by omega, by go_num, by rw [List.length_set]; exact HL.out, HFP.out, HDP.out, HS.out, HB.out, HZ.out⟩
      case measure => simp [intOf]; omega
    · obtain rfl : k = ls.length := by omega
      go_wp2
      go_ret
      exact ⟨w.heap.size, ls.length, vs, rfl, HL.out, ho, HF.out, HD.out, rdns_of HL.out ho HF.out, Nat.le_refl _, by unfold maxLen; omega, hb⟩
/-- Blocks below B, and those from N on, are as they were. -/
def Mid (B N : Nat) (w w' : World) : Prop := Below B w w' ∧ ∀ i, N ≤ i → i < w.heap.size → w'.heap[i]? = w.heap[i]?
theorem Mid.refl (B N : Nat) (w : World) : Mid B N w w := ⟨Below.refl _ _, fun _ _ _ => rfl⟩
theorem Mid.grown {B N : Nat} {w w' w2 : World} {row : Option Nat} (h : Mid B N w w') (hg : w'.grownBy w2 row) (hr : ∀ k, row = some k → B ≤ k ∧ k < N) (hB : B ≤ w.heap.size) : Mid B N w w2 := by
  refine ⟨h.1.trans (grown_Below hg (Nat.le_trans hB h.1.size) fun k hk => (hr k hk).1), fun i hi hlt => ?_⟩
  rw [hg.block i (Nat.lt_of_lt_of_le hlt h.1.size) (by intro e; have := (hr i e.symm).2; omega)]
  exact h.2 i hi hlt
theorem ownsRow_mid {base B N : Nat} {e size : Nat} {w w' : World} {v : Value} {n : Nat} {xs : List Value} (h : w.ownsRow base e size v n xs) (hm : Mid B N w w') (hN : N ≤ base) : w'.ownsRow base e size v n xs := by
  refine ⟨h.1, ?_⟩
  rcases h.2 with hn | ⟨g, cap, cur, hv, hg, hh, rest⟩
  · exact .inl hn
  · exact .inr ⟨g, cap, cur, hv, hg, by rw [hm.2 g (Nat.le_trans hN hg) (Array.getElem?_eq_some_iff.1 hh).1]; exact hh, rest⟩
theorem OwnI.mid {base B N : Nat} {e : Nat} {w w' : World} {v : Value} {l : List Int} (h : OwnI e base w v l) (hm : Mid B N w w') (hN : N ≤ base) : OwnI e base w' v l := ownsRow_mid h hm hN
theorem OwnV.keep {e B : Nat} {w w' : World} {v : Value} {L : List Value} {row : Option Nat} (h : OwnV e B w v L) (hg : w.grownBy w' row) (hne : v.ownBlock = none ∨ v.ownBlock ≠ row) : OwnV e B w' v L := World.ownsRow.kept h hg hne
/-- The rows from k on are as they were. -/
def FrmNS (e B : Nat) (w : World) (ls : List (List (Int × Int))) (vs : List Value) (k : Nat) : Prop :=
  ∀ j, k ≤ j → j < ls.length → ∃ A' c', vs[j]? = some (.slice A' (nt ls j).length c') ∧ OwnN e B w (.slice A' (nt ls j).length c') (nt ls j)
theorem FrmNS.next {e B : Nat} {w w' : World} {ls : List (List (Int × Int))} {vs : List Value} {k : Nat} {v : Value} (h : FrmNS e B w ls vs k) (hv : vs[k]? = some v) (hg : w.grownBy w' v.ownBlock) (hD : DisV vs ls.length) : FrmNS e B w' ls vs (k + 1) := by
  intro j hj hjl
  obtain ⟨A', c', h1, h2⟩ := h j (by omega) hjl
  refine ⟨A', c', h1, h2.keep hg ?_⟩
  cases hq : (Value.slice A' (nt ls j).length c').ownBlock with
  | none => exact Or.inl rfl
  | some q =>
    refine Or.inr fun e => ?_
    exact hD k j (by omega) hjl q (by rw [obk_at hv, ← e]) (by rw [obk_at h1, hq])
attribute [local irreducible] nt totZ in
set_option maxHeartbeats 800000 in
theorem markNoteSS_any (eS e B g c N : Nat) (ls : List (List (Int × Int))) (vs : List Value) (k0 : Int) (w : World) (hvl : vs.length = ls.length) (ho : OwnV eS B w (.slice (some ⟨g, 0, none⟩) ls.length c) vs) (hF : FilNS e (g + 1) w ls vs ls.length) (hD : DisV vs ls.length) (hN : ∀ i q, i < ls.length → obk vs i = some q → q < N) (hBw : B ≤ w.heap.size)
    (hk0 : 0 ≤ k0) (hk1 : k0 + 2 * (totZ ls ls.length : Nat) ≤ 100000000) (hl : ls.length ≤ 1000000000) :
    Calls Try.prog 54 #[.slice (some ⟨g, 0, none⟩) ls.length c, .int .i64 k0] w fun en w' => en = .returned (.int .i64 (k0 + 2 * (totZ ls ls.length : Nat))) ∧ Mid B N w w' := by
  have HVL := Lib.hid hvl
  have HD := Lib.hid hD
  have HT0 := Lib.hid (show totZ ls 0 = 0 by rw [totZ])
  have HTS := Lib.hid (fun k => (show totZ ls (k + 1) = totZ ls k + (nt ls k).length by rw [totZ]))
  have HTL := Lib.hid (fun k (hk : k ≤ ls.length) => totZ_le (ls := ls) hk)
  have HNT := Lib.hid (fun k (hk : k < ls.length) => nt_le (ls := ls) hk)
  have hgB := (ho.blk g rfl).1
  have hbk := (fun i q (hi : i < ls.length) (hq : obk vs i = some q) => And.intro (hF.obk_lt hi hq).1 (hN i q hi hq))
  have HBK := Lib.hid hbk
  have hfr : FrmNS e (g + 1) w ls vs 0 := fun j _ hj => by obtain ⟨A', c', h1, _, _, h4⟩ := hF j hj; exact ⟨A', c', h1, h4⟩
  clear hvl hD hF hbk hN
  go_enter Try.func54, Try.ntmps54
  go_wp2
  go_loopw [1, 5] (fun q i wr => ∃ k : Nat, k ≤ ls.length ∧ i = .int .i64 k ∧ q = .int .i64 (k0 + 2 * (totZ ls k : Nat)) ∧ FrmNS e (g + 1) wr ls vs k ∧ OwnV eS B wr (.slice (some ⟨g, 0, none⟩) ls.length c) vs ∧ Mid B N w wr) (fun _ i _ => ls.length - (intOf i).toNat)
  case atStart => exact ⟨0, by omega, rfl, by rw [HT0.out]; simp, hfr, ho, Mid.refl _ _ _⟩
  case round =>
    clear hfr ho
    obtain ⟨k, hk, rfl, rfl, hfr, ho, hm⟩ := hrel
    have htl := HTL.out k hk
    by_cases hlt : k < ls.length
    · obtain ⟨A', c', h1, h2⟩ := hfr k (Nat.le_refl _) hlt
      obtain ⟨hBg, hgl, hcg, hfg⟩ := ho.head
      have q1 : wr.cell? ⟨g, k, none⟩ = some (.slice A' (nt ls k).length c') := by
        rcases hcg k with h | h
        · rw [h]; exact h1
        · rw [HVL.out] at h; omega
      have hnl := HNT.out k hlt
      have hts := HTS.out k
      have hts2 : totZ ls (k + 1) ≤ totZ ls ls.length := HTL.out (k + 1) (by omega)
      have HS := Lib.hid hts
      have HFR := Lib.hid hfr
      have HH1 := Lib.hid h1
      have hx1 : k0 + 2 * (totZ ls k : Nat) ≤ 100000000 := by omega
      clear hcg hfg hts hfr h1
      go_wp2_with fail
      refine (markNoteS_any e (g + 1) A' c' (nt ls k) _ wr h2 (by omega) (by omega) (by omega)).mono ?_
      rintro en w2 ⟨rfl, L, _, _, _, hg2⟩
      have hF2 := HFR.out.next HH1.out hg2 HD.out
      have hblk := fun q hq => HBK.out k q hlt (by rw [obk_at HH1.out]; exact hq)
      have ho2 := ho.keep hg2 (by
        refine Or.inr fun e => ?_
        have := (hblk g e.symm).1
        omega)
      have hm2 := hm.grown hg2 (fun q hq => ⟨by have := (hblk q hq).1; omega, by have := (hblk q hq).2; omega⟩) hBw
      clear hblk h2 ho hm hg2
      go_wp2
      go_roundw
      case rel => exact ⟨k + 1, by omega, by go_num, by rw [HS.out]; congr 1; push_cast; omega, hF2, ho2, hm2⟩
      case measure => simp [intOf]; omega
    · obtain rfl : k = ls.length := by omega
      go_wp2
      go_ret
      exact ⟨rfl, hm⟩
end Go.Proofs.Ythgeijgojdmidaa
