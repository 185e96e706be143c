/- Copies of slices of slices of notes whose rows lie apart, and marks in them. -/
import Derived.Test.YtkbceojeahninaaNssB
namespace Go.Proofs.Ytkbceojeahninaa
open Go.ChangeShapes Go.WideShapes Go.ChangeAt Go.RowKit
set_option linter.unusedVariables false
def obk (vs : List Value) (i : Nat) : Option Nat := match vs[i]? with
  | some v => v.ownBlock
  | none => none
def DisV (vs : List Value) (k : Nat) : Prop := ∀ i j, i < j → j < k → ∀ g, obk vs i = some g → obk vs j ≠ some g
theorem obk_at {vs : List Value} {i : Nat} {v : Value} (h : vs[i]? = some v) : obk vs i = v.ownBlock := by unfold obk; rw [h]
theorem obk_set {vs : List Value} {k : Nat} {v : Value} (hk : k < vs.length) (i : Nat) : obk (vs.set k v) i = if i = k then v.ownBlock else obk vs i := by
  unfold obk
  by_cases h : i = k
  · subst h; rw [List.getElem?_set_self hk, if_pos rfl]
  · rw [List.getElem?_set_ne (Ne.symm h), if_neg h]
theorem FilNS.obk_lt {e B : Nat} {w : World} {ls : List (List (Int × Int))} {vs : List Value} {k i g : Nat} (h : FilNS e B w ls vs k) (hi : i < k) (hg : obk vs i = some g) : B ≤ g ∧ g < w.heap.size := by
  obtain ⟨A', c', h1, _, _, h4⟩ := h i hi
  rw [obk_at h1] at hg
  exact h4.blk g hg
theorem DisV.put {e B : Nat} {w : World} {ls : List (List (Int × Int))} {vs : List Value} {k : Nat} {v : Value} (h : DisV vs k) (hf : FilNS e B w ls vs k) (hk : k < vs.length) (hv : ∀ g, v.ownBlock = some g → w.heap.size ≤ g) : DisV (vs.set k v) (k + 1) := by
  intro i j hij hj g hg
  rw [obk_set hk] at hg ⊢
  rw [if_neg (by omega)] at hg
  by_cases e : j = k
  · rw [if_pos e]
    intro h2
    have := hv g h2
    have := (hf.obk_lt (by omega) hg).2
    omega
  · rw [if_neg e]
    exact h i j hij (by omega) g hg
/-- A new slice of new slices, its rows apart. -/
def RetMS (eS e B : Nat) (ls : List (List (Int × Int))) (w : World) (en : Ending) (w' : World) : Prop :=
  ∃ g c vs, en = .returned (.slice (some ⟨g, 0, none⟩) ls.length c) ∧ vs.length = ls.length ∧ OwnV eS B w' (.slice (some ⟨g, 0, none⟩) ls.length c) vs ∧ FilNS e (g + 1) w' ls vs ls.length ∧ DisV vs ls.length ∧ RdNS w' (some ⟨g, 0, none⟩) ls ∧ ls.length ≤ c ∧ c ≤ maxLen ∧ Below B w w'
theorem rdns_of {eS e B g c : Nat} {w : World} {ls : List (List (Int × Int))} {vs : List Value} (hl : vs.length = ls.length) (ho : OwnV eS B w (.slice (some ⟨g, 0, none⟩) ls.length c) vs) (hF : FilNS e (g + 1) w ls vs ls.length) : RdNS w (some ⟨g, 0, none⟩) ls := by
  intro _
  obtain ⟨hBg, hgl, hcg, _⟩ := ho.head
  refine ⟨g, 0, rfl, hgl, fun j hj => ?_⟩
  obtain ⟨A', c', q1, q2, q3, q4⟩ := hF j hj
  refine ⟨A', c', ?_, q2, q3, q4.rdA⟩
  rw [Nat.zero_add]
  rcases hcg j with h | h
  · rw [h]; exact q1
  · rw [hl] at h; omega
/-- Blocks below B, and those from N on, are as they were. -/
def Mid (B N : Nat) (w w' : World) : Prop := Below B w w' ∧ ∀ i, N ≤ i → i < w.heap.size → w'.heap[i]? = w.heap[i]?
theorem Mid.refl (B N : Nat) (w : World) : Mid B N w w := ⟨Below.refl _ _, fun _ _ _ => rfl⟩
theorem Mid.grown {B N : Nat} {w w' w2 : World} {row : Option Nat} (h : Mid B N w w') (hg : w'.grownBy w2 row) (hr : ∀ k, row = some k → B ≤ k ∧ k < N) (hB : B ≤ w.heap.size) : Mid B N w w2 := by
  refine ⟨h.1.trans (grown_Below hg (Nat.le_trans hB h.1.size) fun k hk => (hr k hk).1), fun i hi hlt => ?_⟩
  rw [hg.block i (Nat.lt_of_lt_of_le hlt h.1.size) (by intro e; have := (hr i e.symm).2; omega)]
  exact h.2 i hi hlt
theorem ownsRow_mid {base B N : Nat} {e size : Nat} {w w' : World} {v : Value} {n : Nat} {xs : List Value} (h : w.ownsRow base e size v n xs) (hm : Mid B N w w') (hN : N ≤ base) : w'.ownsRow base e size v n xs := by
  refine ⟨h.1, ?_⟩
  rcases h.2 with hn | ⟨g, cap, cur, hv, hg, hh, rest⟩
  · exact .inl hn
  · exact .inr ⟨g, cap, cur, hv, hg, by rw [hm.2 g (Nat.le_trans hN hg) (Array.getElem?_eq_some_iff.1 hh).1]; exact hh, rest⟩
theorem OwnI.mid {base B N : Nat} {e : Nat} {w w' : World} {v : Value} {l : List Int} (h : OwnI e base w v l) (hm : Mid B N w w') (hN : N ≤ base) : OwnI e base w' v l := ownsRow_mid h hm hN
theorem OwnV.keep {e B : Nat} {w w' : World} {v : Value} {L : List Value} {row : Option Nat} (h : OwnV e B w v L) (hg : w.grownBy w' row) (hne : v.ownBlock = none ∨ v.ownBlock ≠ row) : OwnV e B w' v L := World.ownsRow.kept h hg hne
/-- The rows from k on are as they were. -/
def FrmNS (e B : Nat) (w : World) (ls : List (List (Int × Int))) (vs : List Value) (k : Nat) : Prop :=
  ∀ j, k ≤ j → j < ls.length → ∃ A' c', vs[j]? = some (.slice A' (nt ls j).length c') ∧ OwnN e B w (.slice A' (nt ls j).length c') (nt ls j)
theorem FrmNS.next {e B : Nat} {w w' : World} {ls : List (List (Int × Int))} {vs : List Value} {k : Nat} {v : Value} (h : FrmNS e B w ls vs k) (hv : vs[k]? = some v) (hg : w.grownBy w' v.ownBlock) (hD : DisV vs ls.length) : FrmNS e B w' ls vs (k + 1) := by
  intro j hj hjl
  obtain ⟨A', c', h1, h2⟩ := h j (by omega) hjl
  refine ⟨A', c', h1, h2.keep hg ?_⟩
  cases hq : (Value.slice A' (nt ls j).length c').ownBlock with
  | none => exact Or.inl rfl
  | some q =>
    refine Or.inr fun e => ?_
    exact hD k j (by omega) hjl q (by rw [obk_at hv, ← e]) (by rw [obk_at h1, hq])
end Go.Proofs.Ytkbceojeahninaa
