/- Words that all the walks of this seat share: how a slice of integers or of pairs reads as a list, what the call owns, and how arguments are opened. Nothing here speaks of a program. -/
import Derived.WalkKit
import Derived.ProofKit
import Derived.OpenShut
import Derived.ShutString
import Derived.ChangeOld
import Derived.Below
import Derived.Deep.Slices
import Derived.Deep.Fields
import Derived.ChangeSame
import Derived.Lib.SmallJoins
import Derived.Lib.Hide
import Derived.Laws.AppendOwnNone
namespace Go.Proofs.Ytkbceojeahninaa
open Go.ChangeShapes Go.WideShapes Go.ChangeAt Go.RowKit Go.Deep Go.Joins

theorem ret_bool {a b : Bool} (h : a = b) : Ending.returned (.bool a) = .returned (.bool b) := by rw [h]
theorem ret_int {k : IntKind} {a b : Int} (h : a = b) : Ending.returned (.int k a) = .returned (.int k b) := by rw [h]

/-- An integer that fits int64 (a plain name: no numeral stands open). -/
def Rng (x : Int) : Prop := (Lit.int .i64 x).wf = true
theorem Rng.bd {x : Int} (h : Rng x) : -9223372036854775808 ≤ x ∧ x ≤ 9223372036854775807 := by
  unfold Rng at h
  have := bounds_i64 h
  omega

/-- Elements by number, behind names that the walk's simp does not open. -/
def gt (l : List Int) (i : Nat) : Int := l.getD i 0
def tm (l : List (Int × Int)) (i : Nat) : Int := (l.getD i (0, 0)).1
def pt (l : List (Int × Int)) (i : Nat) : Int := (l.getD i (0, 0)).2

/-- The address reads as the list: asked for only where there is an element. -/
def RdI (w : World) (A : Option Addr) (l : List Int) : Prop :=
  0 < l.length → ∃ b off, A = some ⟨b, off, none⟩ ∧ b < w.heap.size ∧ ∀ j, j < l.length → w.cell? ⟨b, off + j, none⟩ = some (.int .i64 (gt l j))
def RdN (w : World) (A : Option Addr) (l : List (Int × Int)) : Prop :=
  0 < l.length → ∃ b off, A = some ⟨b, off, none⟩ ∧ b < w.heap.size ∧ ∀ j, j < l.length →
    w.cell? ⟨b, off + j * 2, none⟩ = some (.int .i64 (tm l j)) ∧ w.cell? ⟨b, off + j * 2 + 1, none⟩ = some (.int .i64 (pt l j))

theorem RdI.below {B : Nat} {w w' : World} {A : Option Addr} {l : List Int} (h : RdI w A l) (hb : Below B w w') (hB : B = w.heap.size) : RdI w' A l := by
  subst hB
  intro hl
  obtain ⟨b, off, rfl, hlt, hc⟩ := h hl
  exact ⟨b, off, rfl, Nat.lt_of_lt_of_le hlt hb.size, fun j hj => (hb.cell (p := ⟨b, off + j, none⟩) hlt).trans (hc j hj)⟩
theorem RdN.below {B : Nat} {w w' : World} {A : Option Addr} {l : List (Int × Int)} (h : RdN w A l) (hb : Below B w w') (hB : B = w.heap.size) : RdN w' A l := by
  subst hB
  intro hl
  obtain ⟨b, off, rfl, hlt, hc⟩ := h hl
  exact ⟨b, off, rfl, Nat.lt_of_lt_of_le hlt hb.size, fun j hj => ⟨(hb.cell (p := ⟨b, off + j * 2, none⟩) hlt).trans (hc j hj).1, (hb.cell (p := ⟨b, off + j * 2 + 1, none⟩) hlt).trans (hc j hj).2⟩⟩

/-- What the call owns, as a list of integers or of pairs. -/
def ints (l : List Int) : List Value := l.map (Value.int .i64)
def pairs (l : List (Int × Int)) : List Value := l.flatMap fun p => [Value.int .i64 p.1, Value.int .i64 p.2]
def OwnI (e B : Nat) (w : World) (v : Value) (l : List Int) : Prop := w.ownsRow B e 1 v l.length (ints l)
def OwnN (e B : Nat) (w : World) (v : Value) (l : List (Int × Int)) : Prop := w.ownsRow B e 2 v l.length (pairs l)

theorem ints_get (l : List Int) (j : Nat) (h : j < l.length) : (ints l)[j]? = some (.int .i64 (gt l j)) := by
  simp [ints, gt, h]
theorem pairs_length (l : List (Int × Int)) : (pairs l).length = l.length * 2 := by
  induction l with
  | nil => rfl
  | cons p l ih => simp only [pairs, List.flatMap_cons, List.length_append, List.length_cons, List.length_nil] at ih ⊢; omega
theorem pairs_cons (p : Int × Int) (l : List (Int × Int)) : pairs (p :: l) = Value.int .i64 p.1 :: Value.int .i64 p.2 :: pairs l := rfl
theorem pairs_get (l : List (Int × Int)) : ∀ j, j < l.length → (pairs l)[j * 2]? = some (.int .i64 (tm l j)) ∧ (pairs l)[j * 2 + 1]? = some (.int .i64 (pt l j)) := by
  induction l with
  | nil => intro j h; simp at h
  | cons p l ih =>
    intro j h
    rw [pairs_cons]
    cases j with
    | zero => simp [tm, pt]
    | succ j =>
      have := ih j (by simpa using h)
      rw [show (j + 1) * 2 = j * 2 + 1 + 1 from by omega, show j * 2 + 1 + 1 + 1 = j * 2 + 1 + 1 + 1 from rfl]
      simpa [tm, pt] using this

theorem ownsRow_below {base B : Nat} {e size : Nat} {w w' : World} {v : Value} {n : Nat} {xs : List Value} (h : w.ownsRow base e size v n xs) (hb : Below B w w') (hB : B = w.heap.size) : w'.ownsRow base e size v n xs := by
  subst hB
  refine ⟨h.1, ?_⟩
  rcases h.2 with hn | ⟨g, cap, cur, hv, hg, hh, rest⟩
  · exact .inl hn
  · exact .inr ⟨g, cap, cur, hv, hg, by rw [hb.block g (Array.getElem?_eq_some_iff.1 hh).1]; exact hh, rest⟩

theorem OwnI.below {e B B' : Nat} {w w' : World} {v : Value} {l : List Int} (h : OwnI e B' w v l) (hb : Below B w w') (hB : B = w.heap.size) : OwnI e B' w' v l := ownsRow_below h hb hB
theorem OwnN.below {e B B' : Nat} {w w' : World} {v : Value} {l : List (Int × Int)} (h : OwnN e B' w v l) (hb : Below B w w') (hB : B = w.heap.size) : OwnN e B' w' v l := ownsRow_below h hb hB

theorem ownsRow_drew {base : Nat} {e size : Nat} {w : World} {v : Value} {n : Nat} {xs : List Value} (h : w.ownsRow base e size v n xs) : w.drew.ownsRow base e size v n xs := h

/-- An owned slice is a slice value of its length; read as a list. -/
theorem OwnI.rd {e B : Nat} {w : World} {v : Value} {l : List Int} (h : OwnI e B w v l) : ∃ A c, v = .slice A l.length c ∧ l.length ≤ c ∧ c ≤ maxLen ∧ RdI w A l := by
  rcases h.2 with ⟨rfl, hn⟩ | ⟨g, cap, cur, rfl, hg, hh, hnc, hm, _⟩
  · exact ⟨none, 0, by rw [hn], by omega, by simp [maxLen], fun hl => by omega⟩
  · exact ⟨some ⟨g, 0, none⟩, cap, rfl, hnc, hm, fun _ => ⟨g, 0, rfl, (Array.getElem?_eq_some_iff.1 hh).1, fun j hj => by
      rw [Nat.zero_add]; exact (World.ownsRow.cellAt h j (by omega)).trans (ints_get l j hj)⟩⟩
theorem OwnN.rd {e B : Nat} {w : World} {v : Value} {l : List (Int × Int)} (h : OwnN e B w v l) : ∃ A c, v = .slice A l.length c ∧ l.length ≤ c ∧ c ≤ maxLen ∧ RdN w A l := by
  rcases h.2 with ⟨rfl, hn⟩ | ⟨g, cap, cur, rfl, hg, hh, hnc, hm, _⟩
  · exact ⟨none, 0, by rw [hn], by omega, by simp [maxLen], fun hl => by omega⟩
  · exact ⟨some ⟨g, 0, none⟩, cap, rfl, hnc, hm, fun _ => ⟨g, 0, rfl, (Array.getElem?_eq_some_iff.1 hh).1, fun j hj => by
      rw [Nat.zero_add]
      exact ⟨(World.ownsRow.cellAt h (j * 2) (by omega)).trans (pairs_get l j hj).1, (World.ownsRow.cellAt h (j * 2 + 1) (by omega)).trans (pairs_get l j hj).2⟩⟩⟩

/-! ### Arguments -/
section
variable {H : Type} {enc : TypeId × Value → H} {P : Program} {w : World} {base : Nat} {spare : Nat → Bool} {held : Bool}

theorem cell_lt {b off : Nat} {v : Value} (h : w.cell? ⟨b, off, none⟩ = some v) : b < w.heap.size := World.block_lt_of_cell? w ⟨b, off, none⟩ h

/-- A slice of integers that came in. -/
theorem arg_ints {t e : TypeId} {fuel : Nat} {cs : List Value} {x : DataW H × List MemPlace} (ht : P.underlying t = some (.slice e)) (he : P.underlying e = some (.int .i64)) (hc : P.cellsOf e = 1)
    (h : DataW.trod enc P w base spare held fuel t cs = some x) :
    ∃ (A : Option Addr) (c : Nat) (l : List Int), cs = [.slice A l.length c] ∧ l.length ≤ c ∧ c ≤ maxLen ∧ RdI w A l ∧ ∀ i, i < l.length → Rng (gt l i) := by
  rcases open_ints ht he hc h with ⟨hcs, _⟩ | ⟨a, len, cap, zs, hcs, _, hl, hm, hz, _, hcell, hwz⟩
  · exact ⟨none, 0, [], hcs, by simp, by simp [maxLen], fun h => by simp at h, fun i h => by simp at h⟩
  · have hzl : len ≤ zs.length := by rw [hz]; split <;> omega
    have htl : (zs.take len).length = len := by simp; omega
    have hg : ∀ i, i < len → gt (zs.take len) i = zs.getD i 0 := fun i hi => by simp [gt, List.getD, hi]
    refine ⟨some a, cap, zs.take len, by rw [htl]; exact hcs, by omega, hm, fun h0 => ?_, fun i hi => ?_⟩
    · obtain ⟨b, off, spot⟩ := a
      have h00 := hcell 0 (by omega)
      have hspot : spot = none := by simpa [Addr.add] using World.cell?_spot h00
      subst hspot
      have hcj : ∀ j, j < len → w.cell? ⟨b, off + j, none⟩ = some (.int .i64 (zs.getD j 0)) := fun j hj => by
        have := hcell j (by omega)
        unfold Addr.add at this
        split at this
        · rename_i h; subst h; exact this
        · exact this
      exact ⟨b, off, rfl, cell_lt (hcj 0 (by omega)), fun j hj => by rw [hg j (by omega)]; exact hcj j (by omega)⟩
    · rw [hg i (by omega)]
      have : zs.getD i 0 = zs[i]'(by omega) := by simp [List.getD, List.getElem?_eq_getElem (show i < zs.length by omega)]
      rw [this]
      exact hwz _ (List.getElem_mem _)

/-- A slice of pairs of integers that came in. -/
theorem arg_pairs {t e : TypeId} {f0 f1 : Field} {fuel : Nat} {cs : List Value} {x : DataW H × List MemPlace} (ht : P.underlying t = some (.slice e)) (he : P.underlying e = some (.struct #[f0, f1]))
    (h0 : P.underlying f0.type = some (.int .i64)) (h1 : P.underlying f1.type = some (.int .i64)) (o0 : f0.offset = 0) (o1 : f1.offset = 1) (k0 : P.cellsOf f0.type = 1) (k1 : P.cellsOf f1.type = 1) (hC : P.cellsOf e = 2)
    (h : DataW.trod enc P w base spare held fuel t cs = some x) :
    ∃ (A : Option Addr) (c : Nat) (l : List (Int × Int)), cs = [.slice A l.length c] ∧ l.length ≤ c ∧ c ≤ maxLen ∧ RdN w A l ∧ ∀ i, i < l.length → Rng (tm l i) ∧ Rng (pt l i) := by
  rcases open_slice ht h with ⟨hcs, _⟩ | ⟨a, len, cap, m, n, D, Pl, hcs, _, hl, hm, hmm, _, hi⟩
  · exact ⟨none, 0, [], hcs, by simp, by simp [maxLen], fun h => by simp at h, fun i h => by simp at h⟩
  · have hml : len ≤ m := by rw [hmm]; split <;> omega
    have each : ∀ i, i < len → ∃ y : Int × Int, w.cell? (a.add (i * 2)) = some (.int .i64 y.1) ∧ w.cell? (a.add (i * 2 + 1)) = some (.int .i64 y.2) ∧ Rng y.1 ∧ Rng y.2 := by
      intro i hil
      obtain ⟨cs', hc, ht'⟩ := hi i (by omega)
      rw [hC] at hc
      obtain ⟨ys, n', _, _, _, _, hf⟩ := DataW.trod_struct he ht'
      obtain ⟨_, hcl, hat⟩ := World.cells?_some hc
      have q0 := hf 0 f0 rfl
      have q1 := hf 1 f1 rfl
      rw [o0, k0] at q0
      rw [o1, k1] at q1
      match cs', hcl, hat, q0, q1 with
      | [c0, c1], _, hat, q0, q1 =>
        have a0 := hat 0 (by omega)
        have a1 := hat 1 (by omega)
        simp at a0 a1
        have hys : ys.length = 2 := by assumption
        have e0 : ys[0]? = some (ys[0]'(by omega)) := List.getElem?_eq_getElem (by omega)
        have e1 : ys[1]? = some (ys[1]'(by omega)) := List.getElem?_eq_getElem (by omega)
        rw [e0] at q0
        rw [e1] at q1
        obtain ⟨n0, g0, _, w0⟩ := DataW.trod_int h0 (show DataW.trod enc P w base spare held n' f0.type [c0] = some (ys[0]'(by omega)) from by simpa using q0)
        obtain ⟨n1, g1, _, w1⟩ := DataW.trod_int h1 (show DataW.trod enc P w base spare held n' f1.type [c1] = some (ys[1]'(by omega)) from by simpa using q1)
        cases g0
        cases g1
        exact ⟨(n0, n1), a0, by rw [← add_add]; exact a1, w0, w1⟩
    obtain ⟨y, hy⟩ := choose_lt each
    have hlen : ((List.range len).map y).length = len := by simp
    have hget : ∀ i, i < len → ((List.range len).map y).getD i (0, 0) = y i := fun i hi => by simp [List.getD, hi]
    have ht1 : ∀ i, i < len → tm ((List.range len).map y) i = (y i).1 := fun i hi => by unfold tm; rw [hget i hi]
    have ht2 : ∀ i, i < len → pt ((List.range len).map y) i = (y i).2 := fun i hi => by unfold pt; rw [hget i hi]
    refine ⟨some a, cap, (List.range len).map y, by rw [hlen]; exact hcs, by omega, hm, fun hp => ?_, fun i hi => ?_⟩
    · rw [hlen] at hp
      obtain ⟨b, off, spot⟩ := a
      have h00 := (hy 0 hp).1
      have hspot : spot = none := by simpa [Addr.add] using World.cell?_spot h00
      subst hspot
      have hadd : ∀ j, (⟨b, off, none⟩ : Addr).add j = ⟨b, off + j, none⟩ := fun j => by
        unfold Addr.add
        split
        · rename_i h; subst h; rfl
        · rfl
      have hc0 : ∀ j, j < len → w.cell? ⟨b, off + j * 2, none⟩ = some (.int .i64 (y j).1) := fun j hj => by rw [← hadd]; exact (hy j hj).1
      have hc1 : ∀ j, j < len → w.cell? ⟨b, off + j * 2 + 1, none⟩ = some (.int .i64 (y j).2) := fun j hj => by rw [Nat.add_assoc, ← hadd]; exact (hy j hj).2.1
      exact ⟨b, off, rfl, cell_lt (hc0 0 hp), fun j hj => by rw [ht1 j (by omega), ht2 j (by omega)]; exact ⟨hc0 j (by omega), hc1 j (by omega)⟩⟩
    · rw [ht1 i (by omega), ht2 i (by omega)]
      exact ⟨(hy i (by omega)).2.2.1, (hy i (by omega)).2.2.2⟩
end
/-! ### append and make, on lists -/
theorem ints_app (l m : List Int) : ints (l ++ m) = ints l ++ ints m := by simp [ints]
theorem pairs_app (l m : List (Int × Int)) : pairs (l ++ m) = pairs l ++ pairs m := by simp [pairs]
theorem ints_one (l : List Int) : ∀ u ∈ ints l, u.oneCell' = true := by
  intro u hu; simp [ints] at hu; obtain ⟨x, _, rfl⟩ := hu; rfl
theorem pairs_one (l : List (Int × Int)) : ∀ u ∈ pairs l, u.oneCell' = true := by
  intro u hu; simp [pairs] at hu; obtain ⟨x, y, _, h⟩ := hu; rcases h with rfl | rfl <;> rfl
theorem ints_length (l : List Int) : (ints l).length = l.length := by simp [ints]

section
variable {P : Program} {ops : Array Oper} {rest : List Oper} {o : Oper} {a : Act} {Q : Exit → Act → World → Prop} {W : World}

theorem grown_below {B : Nat} {W w' : World} {o : Obj} {v : Value} {e size n : Nat} {xs : List Value} (hown : W.ownsRow B e size v n xs) (hg : (W.alloc o).grownBy w' v.ownBlock) (hB : B ≤ W.heap.size) : Below B W w' :=
  ((Below.refl B W).alloc hB o).grown hg (by simp; omega) fun k hk => (hown.lt k hk).1
theorem grown_below' {B : Nat} {W w' : World} {v : Value} {e size n : Nat} {xs : List Value} (hown : W.ownsRow B e size v n xs) (hg : W.grownBy w' v.ownBlock) (hB : B ≤ W.heap.size) : Below B W w' :=
  (Below.refl B W).grown hg hB fun k hk => (hown.lt k hk).1

/-- append(l, y). -/
theorem app_int (hgd : o.guard = none) (s x : Operand) (t : TypeId) (ho : o.op = .call { callee := .builtin .append, args := #[s, x], argTypes := #[t, t] })
    (e : TypeId) (ht : P.underlying t = some (.slice e)) (hI : (P.info? e).map (fun i => (i.zero, i.size, i.bytes)) = some (some (.int .i64 0), 1, 8))
    (B : Nat) (v : Value) (l : List Int) (y : Int) (hown : OwnI e B W v l) (hs : a.eval s = v) (hx : a.eval x = .slice (some ⟨W.heap.size, 0, none⟩) 1 1) (hlen : l.length ≤ 1000000000) (hB : B ≤ W.heap.size)
    (h : ∀ v' w', OwnI e B w' v' (l ++ [y]) → Below B W w' → wpList P ops Q rest (a.put o.dst v') w') : wpList P ops Q (o :: rest) a (W.alloc (.cells #[.int .i64 y] e)) := by
  obtain ⟨i, hi, hz, hsz, hby⟩ := info_parts hI
  refine wpList_append_own (P := P) (w := W.alloc (.cells #[.int .i64 y] e)) hgd s x t ho B e i (.int .i64 0) 1 8 ht hi hz hsz hby rfl (by decide) v l.length (ints l) hs (hown.alloc _) ⟨W.heap.size, 0, none⟩ 1 1 [.int .i64 y] hx rfl ?_ ?_ ?_ ?_ ?_ ?_
  · intro j u hj
    match j, hj with
    | 0, hj => simp at hj; subst hj; simp [Addr.add]
  · intro u hu; simp at hu; subst hu; rfl
  · unfold maxLen; omega
  · omega
  · simp; omega
  · intro v' w' h1 h2 _
    refine h v' w' ?_ (grown_below hown h2 hB)
    unfold OwnI
    rw [ints_app]
    simpa [ints] using h1

/-- append(l, Pair{y, z}). -/
theorem app_pair (hgd : o.guard = none) (s x : Operand) (t : TypeId) (ho : o.op = .call { callee := .builtin .append, args := #[s, x], argTypes := #[t, t] })
    (e : TypeId) (ht : P.underlying t = some (.slice e)) (hI : (P.info? e).map (fun i => (i.zero, i.size, i.bytes)) = some (some (.agg #[.int .i64 0, .int .i64 0]), 2, 16))
    (B : Nat) (v : Value) (l : List (Int × Int)) (y z : Int) (hown : OwnN e B W v l) (hs : a.eval s = v) (hx : a.eval x = .slice (some ⟨W.heap.size, 0, none⟩) 1 1) (hlen : l.length ≤ 1000000000) (hB : B ≤ W.heap.size)
    (h : ∀ v' w', OwnN e B w' v' (l ++ [(y, z)]) → Below B W w' → wpList P ops Q rest (a.put o.dst v') w') : wpList P ops Q (o :: rest) a (W.alloc (.cells #[.int .i64 y, .int .i64 z] e)) := by
  obtain ⟨i, hi, hz, hsz, hby⟩ := info_parts hI
  refine wpList_append_own (P := P) (w := W.alloc (.cells #[.int .i64 y, .int .i64 z] e)) hgd s x t ho B e i (.agg #[.int .i64 0, .int .i64 0]) 2 16 ht hi hz hsz hby rfl (by decide) v l.length (pairs l) hs (hown.alloc _) ⟨W.heap.size, 0, none⟩ 1 1 [.int .i64 y, .int .i64 z] hx rfl ?_ ?_ ?_ ?_ ?_ ?_
  · intro j u hj
    match j, hj with
    | 0, hj => simp at hj; subst hj; simp [Addr.add]
    | 1, hj => simp at hj; subst hj; simp [Addr.add]
  · intro u hu; simp at hu; rcases hu with rfl | rfl <;> rfl
  · unfold maxLen; omega
  · omega
  · simp; omega
  · intro v' w' h1 h2 _
    refine h v' w' ?_ (grown_below hown h2 hB)
    unfold OwnN
    rw [pairs_app]
    simpa [pairs] using h1

/-- append(l, m...), integers: the source may be nil or empty. -/
theorem app_ints (hgd : o.guard = none) (s x : Operand) (t : TypeId) (ho : o.op = .call { callee := .builtin .append, args := #[s, x], argTypes := #[t, t] })
    (e : TypeId) (ht : P.underlying t = some (.slice e)) (hI : (P.info? e).map (fun i => (i.zero, i.size, i.bytes)) = some (some (.int .i64 0), 1, 8))
    (B : Nat) (v : Value) (l m : List Int) (A : Option Addr) (c : Nat) (hown : OwnI e B W v l) (hrd : RdI W A m) (hs : a.eval s = v) (hx : a.eval x = .slice A m.length c) (hlen : l.length + m.length ≤ 1000000000) (hB : B ≤ W.heap.size) (hA : A = none → c = 0)
    (h : ∀ v' w', OwnI e B w' v' (l ++ m) → Below B W w' → wpList P ops Q rest (a.put o.dst v') w') : wpList P ops Q (o :: rest) a W := by
  obtain ⟨i, hi, hz, hsz, hby⟩ := info_parts hI
  rcases A with _ | ad
  · have hm : m = [] := by
      cases m with
      | nil => rfl
      | cons x m => obtain ⟨b, off, h, _⟩ := hrd (by simp); cases h
    subst hm
    have hc := hA rfl
    subst hc
    refine wpList_append_own_none (P := P) (w := W) hgd s x t ho B e i 1 ht hi v l.length (ints l) hs hown hx ?_
    simpa using h v W (by simpa using hown) (Below.refl B W)
  · refine wpList_append_own (P := P) (w := W) hgd s x t ho B e i (.int .i64 0) 1 8 ht hi hz hsz hby rfl (by decide) v l.length (ints l) hs hown ad m.length c (ints m) hx (by rw [ints_length]; omega) ?_ (ints_one m) ?_ ?_ hB ?_
    · intro j u hj
      have hjl : j < m.length := by
        rcases Nat.lt_or_ge j m.length with h | h
        · exact h
        · rw [List.getElem?_eq_none (by rw [ints_length]; exact h)] at hj; cases hj
      obtain ⟨b, off, he, _, hc⟩ := hrd (by omega)
      cases he
      rw [ints_get m j hjl] at hj
      cases hj
      have := hc j hjl
      unfold Addr.add
      split
      · rename_i h0; subst h0; exact this
      · exact this
    · unfold maxLen; omega
    · omega
    · intro v' w' h1 h2 _
      refine h v' w' ?_ (grown_below' hown h2 hB)
      unfold OwnI
      rw [ints_app, List.length_append]
      exact h1

/-- append(l, m...), pairs. -/
theorem app_pairs (hgd : o.guard = none) (s x : Operand) (t : TypeId) (ho : o.op = .call { callee := .builtin .append, args := #[s, x], argTypes := #[t, t] })
    (e : TypeId) (ht : P.underlying t = some (.slice e)) (hI : (P.info? e).map (fun i => (i.zero, i.size, i.bytes)) = some (some (.agg #[.int .i64 0, .int .i64 0]), 2, 16))
    (B : Nat) (v : Value) (l m : List (Int × Int)) (A : Option Addr) (c : Nat) (hown : OwnN e B W v l) (hrd : RdN W A m) (hs : a.eval s = v) (hx : a.eval x = .slice A m.length c) (hlen : l.length + m.length ≤ 1000000000) (hB : B ≤ W.heap.size) (hA : A = none → c = 0)
    (h : ∀ v' w', OwnN e B w' v' (l ++ m) → Below B W w' → wpList P ops Q rest (a.put o.dst v') w') : wpList P ops Q (o :: rest) a W := by
  obtain ⟨i, hi, hz, hsz, hby⟩ := info_parts hI
  rcases A with _ | ad
  · have hm : m = [] := by
      cases m with
      | nil => rfl
      | cons x m => obtain ⟨b, off, h, _⟩ := hrd (by simp); cases h
    subst hm
    have hc := hA rfl
    subst hc
    refine wpList_append_own_none (P := P) (w := W) hgd s x t ho B e i 2 ht hi v l.length (pairs l) hs hown hx ?_
    simpa using h v W (by simpa using hown) (Below.refl B W)
  · refine wpList_append_own (P := P) (w := W) hgd s x t ho B e i (.agg #[.int .i64 0, .int .i64 0]) 2 16 ht hi hz hsz hby rfl (by decide) v l.length (pairs l) hs hown ad m.length c (pairs m) hx (by rw [pairs_length]) ?_ (pairs_one m) ?_ ?_ hB ?_
    · intro j u hj
      have hjl : j < m.length * 2 := by
        rcases Nat.lt_or_ge j (m.length * 2) with h | h
        · exact h
        · rw [List.getElem?_eq_none (by rw [pairs_length]; exact h)] at hj; cases hj
      obtain ⟨b, off, he, _, hc⟩ := hrd (by omega)
      cases he
      have hadd : (⟨b, off, none⟩ : Addr).add j = ⟨b, off + j, none⟩ := by
        unfold Addr.add
        split
        · rename_i h0; subst h0; rfl
        · rfl
      rw [hadd]
      have hk := pairs_get m (j / 2) (by omega)
      have hck := hc (j / 2) (by omega)
      rcases Nat.mod_two_eq_zero_or_one j with h0 | h0
      · have : j / 2 * 2 = j := by omega
        rw [this] at hk hck
        rw [hk.1] at hj
        cases hj
        exact hck.1
      · have : j / 2 * 2 + 1 = j := by omega
        rw [Nat.add_assoc, this] at hck
        rw [this] at hk
        rw [hk.2] at hj
        cases hj
        exact hck.2
    · unfold maxLen; omega
    · omega
    · intro v' w' h1 h2 _
      refine h v' w' ?_ (grown_below' hown h2 hB)
      unfold OwnN
      rw [pairs_app, List.length_append]
      exact h1
end
/-! ### What a call that hands back a new slice leaves -/
def RetI (e B : Nat) (L : List Int) (w : World) (en : Ending) (w' : World) : Prop :=
  ∃ A c, en = .returned (.slice A L.length c) ∧ OwnI e B w' (.slice A L.length c) L ∧ L.length ≤ c ∧ c ≤ maxLen ∧ (A = none → c = 0) ∧ RdI w' A L ∧ Below B w w'
theorem RetI.mk {e B : Nat} {L : List Int} {w w' : World} {v : Value} (h : OwnI e B w' v L) (hb : Below B w w') : RetI e B L w (.returned v) w' := by
  rcases h.2 with ⟨rfl, hn⟩ | ⟨g, cap, cur, rfl, hg, hh, hnc, hm, _⟩
  · exact ⟨none, 0, by rw [hn], by rw [hn]; exact h, by omega, by simp [maxLen], fun _ => rfl, fun hl => by omega, hb⟩
  · obtain ⟨A, c, he, h1, h2, h3⟩ := h.rd
    simp only [Value.slice.injEq, true_and] at he
    obtain ⟨rfl, rfl⟩ := he
    exact ⟨_, _, rfl, h, h1, h2, (fun hA => by cases hA), h3, hb⟩
def RetN (e B : Nat) (L : List (Int × Int)) (w : World) (en : Ending) (w' : World) : Prop :=
  ∃ A c, en = .returned (.slice A L.length c) ∧ OwnN e B w' (.slice A L.length c) L ∧ L.length ≤ c ∧ c ≤ maxLen ∧ (A = none → c = 0) ∧ RdN w' A L ∧ Below B w w'
theorem RetN.mk {e B : Nat} {L : List (Int × Int)} {w w' : World} {v : Value} (h : OwnN e B w' v L) (hb : Below B w w') : RetN e B L w (.returned v) w' := by
  rcases h.2 with ⟨rfl, hn⟩ | ⟨g, cap, cur, rfl, hg, hh, hnc, hm, _⟩
  · exact ⟨none, 0, by rw [hn], by rw [hn]; exact h, by omega, by simp [maxLen], fun _ => rfl, fun hl => by omega, hb⟩
  · obtain ⟨A, c, he, h1, h2, h3⟩ := h.rd
    simp only [Value.slice.injEq, true_and] at he
    obtain ⟨rfl, rfl⟩ := he
    exact ⟨_, _, rfl, h, h1, h2, (fun hA => by cases hA), h3, hb⟩
/-! ### More of owned slices: where they lie, stores, frames -/
theorem OwnI.head {e B : Nat} {w : World} {A : Option Addr} {n c : Nat} {L : List Int} (h : OwnI e B w (.slice A n c) L) (hL : 0 < L.length) :
    ∃ g, A = some ⟨g, 0, none⟩ ∧ B ≤ g ∧ g < w.heap.size ∧ (∀ j, j < L.length → w.cell? ⟨g, j, none⟩ = some (.int .i64 (gt L j))) ∧ ∀ j, w.frozen? ⟨g, j, none⟩ = false := by
  rcases h.2 with ⟨h', hn⟩ | ⟨g, cap, cur, h', hBg, hh, _⟩
  · omega
  · injection h' with h1 h2 h3
    subst h1 h2 h3
    exact ⟨g, rfl, hBg, (Array.getElem?_eq_some_iff.1 hh).1, fun j hj => (World.ownsRow.cellAt h j (by omega)).trans (ints_get L j hj), fun j => frozen_of_row w g j cur e hh⟩
theorem OwnN.head {e B : Nat} {w : World} {A : Option Addr} {n c : Nat} {L : List (Int × Int)} (h : OwnN e B w (.slice A n c) L) (hL : 0 < L.length) :
    ∃ g, A = some ⟨g, 0, none⟩ ∧ B ≤ g ∧ g < w.heap.size ∧ (∀ j, j < L.length → w.cell? ⟨g, j * 2, none⟩ = some (.int .i64 (tm L j)) ∧ w.cell? ⟨g, j * 2 + 1, none⟩ = some (.int .i64 (pt L j))) ∧ ∀ j, w.frozen? ⟨g, j, none⟩ = false := by
  rcases h.2 with ⟨h', hn⟩ | ⟨g, cap, cur, h', hBg, hh, _⟩
  · omega
  · injection h' with h1 h2 h3
    subst h1 h2 h3
    exact ⟨g, rfl, hBg, (Array.getElem?_eq_some_iff.1 hh).1, fun j hj => ⟨(World.ownsRow.cellAt h (j * 2) (by omega)).trans (pairs_get L j hj).1, (World.ownsRow.cellAt h (j * 2 + 1) (by omega)).trans (pairs_get L j hj).2⟩, fun j => frozen_of_row w g j cur e hh⟩
theorem gt_set (L : List Int) (j i : Nat) (y : Int) (hj : j < L.length) : gt (L.set j y) i = if i = j then y else gt L i := by
  unfold gt
  by_cases h : i = j
  · subst h; simp [List.getD, hj]
  · rw [if_neg h]
    simp [List.getD, Ne.symm h]
theorem ints_set (L : List Int) (j : Nat) (y : Int) : ints (L.set j y) = (ints L).set j (.int .i64 y) := by
  unfold ints; rw [List.map_set]
theorem OwnI.stored {e B : Nat} {w : World} {g n c : Nat} {L : List Int} (h : OwnI e B w (.slice (some ⟨g, 0, none⟩) n c) L) (j : Nat) (y : Int) :
    OwnI e B (w.setCell ⟨g, j, none⟩ (.int .i64 y)) (.slice (some ⟨g, 0, none⟩) n c) (L.set j y) ∧ w.grownBy (w.setCell ⟨g, j, none⟩ (.int .i64 y)) (some g) := by
  have hn : n = L.length := by
    rcases h.2 with ⟨h', _⟩ | ⟨g', cap', cur, h', _⟩
    · cases h'
    · injection h'
  subst hn
  have := World.ownsRow.stored h j (.int .i64 y)
  refine ⟨?_, this.2⟩
  unfold OwnI
  rw [List.length_set, ints_set]
  exact this.1
theorem grown_trans {a b c : World} {row : Option Nat} (h : a.grownBy b row) (k : b.grownBy c row) : a.grownBy c row :=
  ⟨k.os.trans h.os, k.tape.trans h.tape, k.output.trans h.output, Nat.le_trans h.size k.size, fun i hi hne => (k.block i (Nat.lt_of_lt_of_le hi h.size) hne).trans (h.block i hi hne)⟩
theorem grown_drew {a b : World} {row : Option Nat} (h : a.grownBy b row) : a.grownBy b.drew row := ⟨h.os, h.tape, h.output, h.size, h.block⟩
theorem grown_drewN {a b : World} {row : Option Nat} (h : a.grownBy b row) (n : Nat) : a.grownBy (b.drewN n) row := ⟨h.os, h.tape, h.output, h.size, h.block⟩
theorem OwnI.keep {e B : Nat} {w w' : World} {v : Value} {L : List Int} {row : Option Nat} (h : OwnI e B w v L) (hg : w.grownBy w' row) (hne : v.ownBlock = none ∨ v.ownBlock ≠ row) : OwnI e B w' v L := World.ownsRow.kept h hg hne
theorem OwnN.keep {e B : Nat} {w w' : World} {v : Value} {L : List (Int × Int)} {row : Option Nat} (h : OwnN e B w v L) (hg : w.grownBy w' row) (hne : v.ownBlock = none ∨ v.ownBlock ≠ row) : OwnN e B w' v L := World.ownsRow.kept h hg hne
theorem grown_Below {B : Nat} {w w' : World} {row : Option Nat} (h : w.grownBy w' row) (hB : B ≤ w.heap.size) (hr : ∀ k, row = some k → B ≤ k) : Below B w w' := (Below.refl B w).grown h hB hr
theorem bel_drewN {B : Nat} {a w : World} (h : Below B a w) (n : Nat) : Below B a (w.drewN n) := ⟨h.os, h.tape, h.output, h.size, h.block⟩
theorem OwnI.blk {e B : Nat} {w : World} {v : Value} {L : List Int} (h : OwnI e B w v L) : ∀ k, v.ownBlock = some k → B ≤ k ∧ k < w.heap.size := World.ownsRow.lt h
theorem OwnN.blk {e B : Nat} {w : World} {v : Value} {L : List (Int × Int)} (h : OwnN e B w v L) : ∀ k, v.ownBlock = some k → B ≤ k ∧ k < w.heap.size := World.ownsRow.lt h
section
variable {P : Program} {ops : Array Oper} {rest : List Oper} {o : Oper} {a : Act} {Q : Exit → Act → World → Prop} {W : World}
/-- make([]int, n). -/
theorem make_ints (hg : o.guard = none) (l c : Operand) (t : TypeId) (hop : o.op = Op.makeSlice t l c) (e : TypeId) (ht : P.underlying t = some (.slice e))
    (hI : (P.info? e).map (fun i => (i.zero, i.size, i.bytes)) = some (some (.int .i64 0), 1, 8)) (B n : Nat) (hl : a.eval l = .int .i64 (n : Int)) (hc : a.eval c = .int .i64 (n : Int)) (hn : n ≤ 1000000000) (hB : B ≤ W.heap.size)
    (hK : ∀ w', OwnI e B w' (.slice (some ⟨W.heap.size, 0, none⟩) n n) (List.replicate n 0) → Below B W w' → W.heap.size < w'.heap.size → wpList P ops Q rest (a.put o.dst (.slice (some ⟨W.heap.size, 0, none⟩) n n)) w') : wpList P ops Q (o :: rest) a W := by
  obtain ⟨i, hi, hz, hsz, hby⟩ := info_parts hI
  refine wpList_make_full W hg l c t hop B e i (.int .i64 0) 1 ht hi hz hsz .i64 .i64 n n n hl hc rfl rfl (by rw [hby]; omega) (by unfold maxLen; omega) hB fun w' h1 h2 => ?_
  have ho : OwnI e B w' (.slice (some ⟨W.heap.size, 0, none⟩) n n) (List.replicate n 0) := by
    unfold OwnI ints
    rw [List.length_replicate, List.map_replicate, ← toList_madeCells_one]
    simpa [Value.cells] using h1
  exact hK w' ho ((Below.refl B W).grown h2 hB (fun k hk => by cases hk)) (ho.blk _ rfl).2
theorem toList_madeCells_two (n : Nat) : (madeCells #[Value.int .i64 0, Value.int .i64 0] (n * 2)).toList = pairs (List.replicate n (0, 0)) := by
  apply List.ext_getElem?
  intro j
  by_cases hj : j < n * 2
  · have hl : j < (pairs (List.replicate n ((0 : Int), (0 : Int)))).length := by rw [pairs_length, List.length_replicate]; exact hj
    have hp := pairs_get (List.replicate n ((0 : Int), (0 : Int))) (j / 2) (by rw [List.length_replicate]; omega)
    have ht : tm (List.replicate n ((0 : Int), (0 : Int))) (j / 2) = 0 := by
      unfold tm; rw [List.getD, List.getElem?_replicate]; split <;> rfl
    have hq : pt (List.replicate n ((0 : Int), (0 : Int))) (j / 2) = 0 := by
      unfold pt; rw [List.getD, List.getElem?_replicate]; split <;> rfl
    have hv : (pairs (List.replicate n ((0 : Int), (0 : Int))))[j]? = some (.int .i64 0) := by
      rcases Nat.mod_two_eq_zero_or_one j with h0 | h0
      · have : j / 2 * 2 = j := by omega
        rw [this, ht] at hp; exact hp.1
      · have : j / 2 * 2 + 1 = j := by omega
        rw [this, hq] at hp; exact hp.2
    rw [hv]
    rcases Nat.mod_two_eq_zero_or_one j with h0 | h0 <;> simp [madeCells, hj, h0]
  · have hl : (pairs (List.replicate n ((0 : Int), (0 : Int)))).length ≤ j := by rw [pairs_length, List.length_replicate]; omega
    rw [List.getElem?_eq_none hl]
    simp [madeCells, hj]
/-- make([]Pair, n). -/
theorem make_pairs (hg : o.guard = none) (l c : Operand) (t : TypeId) (hop : o.op = Op.makeSlice t l c) (e : TypeId) (ht : P.underlying t = some (.slice e))
    (hI : (P.info? e).map (fun i => (i.zero, i.size, i.bytes)) = some (some (.agg #[.int .i64 0, .int .i64 0]), 2, 16)) (B n : Nat) (hl : a.eval l = .int .i64 (n : Int)) (hc : a.eval c = .int .i64 (n : Int)) (hn : n ≤ 1000000000) (hB : B ≤ W.heap.size)
    (hK : ∀ w', OwnN e B w' (.slice (some ⟨W.heap.size, 0, none⟩) n n) (List.replicate n (0, 0)) → Below B W w' → W.heap.size < w'.heap.size → wpList P ops Q rest (a.put o.dst (.slice (some ⟨W.heap.size, 0, none⟩) n n)) w') : wpList P ops Q (o :: rest) a W := by
  obtain ⟨i, hi, hz, hsz, hby⟩ := info_parts hI
  refine wpList_make_full W hg l c t hop B e i (.agg #[.int .i64 0, .int .i64 0]) 2 ht hi hz hsz .i64 .i64 n n n hl hc rfl rfl (by rw [hby]; omega) (by unfold maxLen; omega) hB fun w' h1 h2 => ?_
  have ho : OwnN e B w' (.slice (some ⟨W.heap.size, 0, none⟩) n n) (List.replicate n (0, 0)) := by
    unfold OwnN
    rw [List.length_replicate, ← toList_madeCells_two]
    simpa [Value.cells] using h1
  exact hK w' ho ((Below.refl B W).grown h2 hB (fun k hk => by cases hk)) (ho.blk _ rfl).2
end
theorem ext_gt {L l : List Int} (hl : L.length = l.length) (h : ∀ i, i < l.length → gt L i = gt l i) : L = l := by
  apply List.ext_getElem hl
  intro i h1 h2
  have := h i h2
  unfold gt at this
  simpa [List.getD, h1, h2] using this
theorem ext_pair {L l : List (Int × Int)} (hl : L.length = l.length) (h : ∀ i, i < l.length → tm L i = tm l i ∧ pt L i = pt l i) : L = l := by
  apply List.ext_getElem hl
  intro i h1 h2
  have := h i h2
  unfold tm pt at this
  simp [List.getD, h1, h2] at this
  exact Prod.ext this.1 this.2
/-- An empty literal. -/
theorem OwnI.lit0 (w : World) (e : TypeId) : OwnI e w.heap.size (w.alloc (.cells #[] e)) (.slice (some ⟨w.heap.size, 0, none⟩) 0 0) [] := World.ownsRow_made w #[] 0 (Nat.le_refl _) (by simp [maxLen]) rfl
theorem OwnN.lit0 (w : World) (e : TypeId) : OwnN e w.heap.size (w.alloc (.cells #[] e)) (.slice (some ⟨w.heap.size, 0, none⟩) 0 0) [] := World.ownsRow_made w #[] 0 (Nat.le_refl _) (by simp [maxLen]) rfl
theorem OwnI.nil0 (w : World) (e B : Nat) : OwnI e B w (.slice none 0 0) [] := World.ownsRow_nil w B e 1
theorem OwnN.nil0 (w : World) (e B : Nat) : OwnN e B w (.slice none 0 0) [] := World.ownsRow_nil w B e 2
theorem OwnI.rdA {e B n c : Nat} {w : World} {A : Option Addr} {L : List Int} (h : OwnI e B w (.slice A n c) L) : RdI w A L := by
  intro hL
  obtain ⟨g, rfl, _, hg, hc, _⟩ := h.head hL
  exact ⟨g, 0, rfl, hg, fun j hj => by rw [Nat.zero_add]; exact hc j hj⟩
theorem OwnN.rdA {e B n c : Nat} {w : World} {A : Option Addr} {L : List (Int × Int)} (h : OwnN e B w (.slice A n c) L) : RdN w A L := by
  intro hL
  obtain ⟨g, rfl, _, hg, hc, _⟩ := h.head hL
  exact ⟨g, 0, rfl, hg, fun j hj => by rw [Nat.zero_add]; exact hc j hj⟩
theorem OwnI.frame {e B n c : Nat} {w w' : World} {A : Option Addr} {L : List Int} (h : OwnI e B w (.slice A n c) L) (hg : w.grownBy w' (Value.slice A n c).ownBlock) (hB : B ≤ w.heap.size) : Below B w w' :=
  grown_Below hg hB fun k hk => (h.blk k hk).1
theorem OwnN.frame {e B n c : Nat} {w w' : World} {A : Option Addr} {L : List (Int × Int)} (h : OwnN e B w (.slice A n c) L) (hg : w.grownBy w' (Value.slice A n c).ownBlock) (hB : B ≤ w.heap.size) : Below B w w' :=
  grown_Below hg hB fun k hk => (h.blk k hk).1
/-- What reads stays, over any stretch that keeps all below some number of blocks not less than there were. -/
theorem RdI.upto {B : Nat} {w w' : World} {A : Option Addr} {l : List Int} (h : RdI w A l) (hb : Below B w w') (hB : w.heap.size ≤ B) : RdI w' A l := h.below (hb.mono hB) rfl
theorem RdN.upto {B : Nat} {w w' : World} {A : Option Addr} {l : List (Int × Int)} (h : RdN w A l) (hb : Below B w w') (hB : w.heap.size ≤ B) : RdN w' A l := h.below (hb.mono hB) rfl
theorem OwnI.upto {e B B' : Nat} {w w' : World} {v : Value} {l : List Int} (h : OwnI e B' w v l) (hb : Below B w w') (hB : w.heap.size ≤ B) : OwnI e B' w' v l := h.below (hb.mono hB) rfl
theorem OwnN.upto {e B B' : Nat} {w w' : World} {v : Value} {l : List (Int × Int)} (h : OwnN e B' w v l) (hb : Below B w w') (hB : w.heap.size ≤ B) : OwnN e B' w' v l := h.below (hb.mono hB) rfl
/-! ### A new slice and a bool -/
def RetIB (e B : Nat) (L : List Int) (b : Bool) (w : World) (en : Ending) (w' : World) : Prop :=
  ∃ A c, en = .returned (.tuple #[.slice A L.length c, .bool b]) ∧ OwnI e B w' (.slice A L.length c) L ∧ L.length ≤ c ∧ c ≤ maxLen ∧ (A = none → c = 0) ∧ RdI w' A L ∧ Below B w w'
theorem RetIB.mk {e B : Nat} {L : List Int} {b : Bool} {w w' : World} {v : Value} (h : OwnI e B w' v L) (hb : Below B w w') : RetIB e B L b w (.returned (.tuple #[v, .bool b])) w' := by
  obtain ⟨A, c, he, r⟩ := RetI.mk h hb
  injection he with he
  subst he
  exact ⟨A, c, rfl, r⟩
def RetNB (e B : Nat) (L : List (Int × Int)) (b : Bool) (w : World) (en : Ending) (w' : World) : Prop :=
  ∃ A c, en = .returned (.tuple #[.slice A L.length c, .bool b]) ∧ OwnN e B w' (.slice A L.length c) L ∧ L.length ≤ c ∧ c ≤ maxLen ∧ (A = none → c = 0) ∧ RdN w' A L ∧ Below B w w'
theorem RetNB.mk {e B : Nat} {L : List (Int × Int)} {b : Bool} {w w' : World} {v : Value} (h : OwnN e B w' v L) (hb : Below B w w') : RetNB e B L b w (.returned (.tuple #[v, .bool b])) w' := by
  obtain ⟨A, c, he, r⟩ := RetN.mk h hb
  injection he with he
  subst he
  exact ⟨A, c, rfl, r⟩
theorem keepRow {wx W W' : World} {Bx ex sx nx B e s n : Nat} {vx v : Value} {xs ys : List Value} (hx : wx.ownsRow Bx ex sx vx nx xs) (hB : wx.heap.size ≤ B) (hg : W.ownsRow B e s v n ys) (hgr : W.grownBy W' vx.ownBlock) : W'.ownsRow B e s v n ys := by
  refine hg.kept hgr ?_
  cases h : v.ownBlock with
  | none => exact .inl rfl
  | some q =>
    refine .inr (fun he => ?_)
    have h1 := hg.lt q h
    have h2 := hx.lt q he.symm
    omega
theorem keepRow_II {wx W W' : World} {Bx ex B e : Nat} {vx v : Value} {xs ys : List Int} (hx : OwnI ex Bx wx vx xs) (hB : wx.heap.size ≤ B) (hg : OwnI e B W v ys) (hgr : W.grownBy W' vx.ownBlock) : OwnI e B W' v ys := keepRow hx hB hg hgr
theorem keepRow_NI {wx W W' : World} {Bx ex B e : Nat} {vx v : Value} {xs : List (Int × Int)} {ys : List Int} (hx : OwnN ex Bx wx vx xs) (hB : wx.heap.size ≤ B) (hg : OwnI e B W v ys) (hgr : W.grownBy W' vx.ownBlock) : OwnI e B W' v ys := keepRow hx hB hg hgr
theorem keepRow_NN {wx W W' : World} {Bx ex B e : Nat} {vx v : Value} {xs ys : List (Int × Int)} (hx : OwnN ex Bx wx vx xs) (hB : wx.heap.size ≤ B) (hg : OwnN e B W v ys) (hgr : W.grownBy W' vx.ownBlock) : OwnN e B W' v ys := keepRow hx hB hg hgr
theorem keepRow_IN {wx W W' : World} {Bx ex B e : Nat} {vx v : Value} {xs : List Int} {ys : List (Int × Int)} (hx : OwnI ex Bx wx vx xs) (hB : wx.heap.size ≤ B) (hg : OwnN e B W v ys) (hgr : W.grownBy W' vx.ownBlock) : OwnN e B W' v ys := keepRow hx hB hg hgr
theorem OwnI.base_le {e B B' : Nat} {w : World} {v : Value} {L : List Int} (h : OwnI e B w v L) (hB : B' ≤ B) : OwnI e B' w v L := by
  refine ⟨h.1, ?_⟩
  rcases h.2 with hn | ⟨g, cap, cur, hv, hg, rest⟩
  · exact .inl hn
  · exact .inr ⟨g, cap, cur, hv, Nat.le_trans hB hg, rest⟩
theorem OwnN.base_le {e B B' : Nat} {w : World} {v : Value} {L : List (Int × Int)} (h : OwnN e B w v L) (hB : B' ≤ B) : OwnN e B' w v L := by
  refine ⟨h.1, ?_⟩
  rcases h.2 with hn | ⟨g, cap, cur, hv, hg, rest⟩
  · exact .inl hn
  · exact .inr ⟨g, cap, cur, hv, Nat.le_trans hB hg, rest⟩
theorem OwnI.setBelow {e B : Nat} {w : World} {v : Value} {L : List Int} (h : OwnI e B w v L) {a : Addr} (ha : a.block < B) (u : Value) : OwnI e B (w.setCell a u) v L := ownsRow_setCell_below h ha u
theorem OwnN.setBelow {e B : Nat} {w : World} {v : Value} {L : List (Int × Int)} (h : OwnN e B w v L) {a : Addr} (ha : a.block < B) (u : Value) : OwnN e B (w.setCell a u) v L := ownsRow_setCell_below h ha u
/-- A struct of a new slice of integers and a number. -/
def RetW (e B : Nat) (L : List Int) (n : Int) (w : World) (en : Ending) (w' : World) : Prop :=
  ∃ A c, en = .returned (.agg #[.slice A L.length c, .int .i64 n]) ∧ OwnI e B w' (.slice A L.length c) L ∧ L.length ≤ c ∧ c ≤ maxLen ∧ (A = none → c = 0) ∧ RdI w' A L ∧ Below B w w'
theorem RetW.mk {e B : Nat} {L : List Int} {n : Int} {w w' : World} {v : Value} (h : OwnI e B w' v L) (hb : Below B w w') : RetW e B L n w (.returned (.agg #[v, .int .i64 n])) w' := by
  obtain ⟨A, c, he, r⟩ := RetI.mk h hb
  injection he with he
  subst he
  exact ⟨A, c, rfl, r⟩
/-! ### Two boxes that a region loads, held over calls -/
theorem held4_start {w v : World} {b1 b2 : Nat} {u1 u2 u3 u4 : Value} (h1 : w.cell? ⟨b1, 0, none⟩ = some u1) (h2 : w.cell? ⟨b1, 1, none⟩ = some u2) (h3 : w.cell? ⟨b2, 0, none⟩ = some u3) (h4 : w.cell? ⟨b2, 1, none⟩ = some u4) (hv : v = w.drew) :
    v.cell? ⟨b1, 0, none⟩ = some u1 ∧ v.cell? ⟨b1, 1, none⟩ = some u2 ∧ v.cell? ⟨b2, 0, none⟩ = some u3 ∧ v.cell? ⟨b2, 1, none⟩ = some u4 ∧ Below w.heap.size w v := by
  subst hv
  exact ⟨h1, h2, h3, h4, (Below.refl _ _).drew⟩
theorem held4_keep {w v u : World} {b1 b2 : Nat} {u1 u2 u3 u4 : Value} (l1 : b1 < w.heap.size) (l2 : b2 < w.heap.size)
    (h : v.cell? ⟨b1, 0, none⟩ = some u1 ∧ v.cell? ⟨b1, 1, none⟩ = some u2 ∧ v.cell? ⟨b2, 0, none⟩ = some u3 ∧ v.cell? ⟨b2, 1, none⟩ = some u4 ∧ Below w.heap.size w v) (hb : Below v.heap.size v u) :
    u.cell? ⟨b1, 0, none⟩ = some u1 ∧ u.cell? ⟨b1, 1, none⟩ = some u2 ∧ u.cell? ⟨b2, 0, none⟩ = some u3 ∧ u.cell? ⟨b2, 1, none⟩ = some u4 ∧ Below w.heap.size w u := by
  obtain ⟨h1, h2, h3, h4, h5⟩ := h
  have hs := h5.size
  exact ⟨(hb.cell (by show b1 < _; omega)).trans h1, (hb.cell (by show b1 < _; omega)).trans h2, (hb.cell (by show b2 < _; omega)).trans h3, (hb.cell (by show b2 < _; omega)).trans h4, h5.trans (hb.mono hs)⟩
theorem held4_bel {w v : World} {b1 b2 : Nat} {u1 u2 u3 u4 : Value}
    (h : v.cell? ⟨b1, 0, none⟩ = some u1 ∧ v.cell? ⟨b1, 1, none⟩ = some u2 ∧ v.cell? ⟨b2, 0, none⟩ = some u3 ∧ v.cell? ⟨b2, 1, none⟩ = some u4 ∧ Below w.heap.size w v) : Below w.heap.size w v := h.2.2.2.2
theorem heldA_start {w v : World} {p1 p2 p3 p4 : Addr} {u1 u2 u3 u4 : Value} (h1 : w.cell? p1 = some u1) (h2 : w.cell? p2 = some u2) (h3 : w.cell? p3 = some u3) (h4 : w.cell? p4 = some u4) (hv : v = w.drew) :
    v.cell? p1 = some u1 ∧ v.cell? p2 = some u2 ∧ v.cell? p3 = some u3 ∧ v.cell? p4 = some u4 ∧ Below w.heap.size w v := by
  subst hv
  exact ⟨h1, h2, h3, h4, (Below.refl _ _).drew⟩
theorem heldA_keep {w v u : World} {p1 p2 p3 p4 : Addr} {u1 u2 u3 u4 : Value} (l1 : p1.block < w.heap.size) (l2 : p2.block < w.heap.size) (l3 : p3.block < w.heap.size) (l4 : p4.block < w.heap.size)
    (h : v.cell? p1 = some u1 ∧ v.cell? p2 = some u2 ∧ v.cell? p3 = some u3 ∧ v.cell? p4 = some u4 ∧ Below w.heap.size w v) (hb : Below v.heap.size v u) :
    u.cell? p1 = some u1 ∧ u.cell? p2 = some u2 ∧ u.cell? p3 = some u3 ∧ u.cell? p4 = some u4 ∧ Below w.heap.size w u := by
  obtain ⟨h1, h2, h3, h4, h5⟩ := h
  have hs := h5.size
  exact ⟨(hb.cell (by omega)).trans h1, (hb.cell (by omega)).trans h2, (hb.cell (by omega)).trans h3, (hb.cell (by omega)).trans h4, h5.trans (hb.mono hs)⟩
theorem heldA_bel {w v : World} {p1 p2 p3 p4 : Addr} {u1 u2 u3 u4 : Value}
    (h : v.cell? p1 = some u1 ∧ v.cell? p2 = some u2 ∧ v.cell? p3 = some u3 ∧ v.cell? p4 = some u4 ∧ Below w.heap.size w v) : Below w.heap.size w v := h.2.2.2.2
theorem held6_start {w v : World} {b1 b2 : Nat} {u1 u2 u3 u4 u5 u6 : Value} (h1 : w.cell? ⟨b1, 0, none⟩ = some u1) (h2 : w.cell? ⟨b1, 1, none⟩ = some u2) (h3 : w.cell? ⟨b1, 2, none⟩ = some u3) (h4 : w.cell? ⟨b2, 0, none⟩ = some u4) (h5 : w.cell? ⟨b2, 1, none⟩ = some u5) (h6 : w.cell? ⟨b2, 2, none⟩ = some u6) (hv : v = w.drew) :
    v.cell? ⟨b1, 0, none⟩ = some u1 ∧ v.cell? ⟨b1, 1, none⟩ = some u2 ∧ v.cell? ⟨b1, 2, none⟩ = some u3 ∧ v.cell? ⟨b2, 0, none⟩ = some u4 ∧ v.cell? ⟨b2, 1, none⟩ = some u5 ∧ v.cell? ⟨b2, 2, none⟩ = some u6 ∧ Below w.heap.size w v := by
  subst hv
  exact ⟨h1, h2, h3, h4, h5, h6, (Below.refl _ _).drew⟩
theorem held6_keep {w v u : World} {b1 b2 : Nat} {u1 u2 u3 u4 u5 u6 : Value} (l1 : b1 < w.heap.size) (l2 : b2 < w.heap.size)
    (h : v.cell? ⟨b1, 0, none⟩ = some u1 ∧ v.cell? ⟨b1, 1, none⟩ = some u2 ∧ v.cell? ⟨b1, 2, none⟩ = some u3 ∧ v.cell? ⟨b2, 0, none⟩ = some u4 ∧ v.cell? ⟨b2, 1, none⟩ = some u5 ∧ v.cell? ⟨b2, 2, none⟩ = some u6 ∧ Below w.heap.size w v) (hb : Below v.heap.size v u) :
    u.cell? ⟨b1, 0, none⟩ = some u1 ∧ u.cell? ⟨b1, 1, none⟩ = some u2 ∧ u.cell? ⟨b1, 2, none⟩ = some u3 ∧ u.cell? ⟨b2, 0, none⟩ = some u4 ∧ u.cell? ⟨b2, 1, none⟩ = some u5 ∧ u.cell? ⟨b2, 2, none⟩ = some u6 ∧ Below w.heap.size w u := by
  obtain ⟨h1, h2, h3, h4, h5, h6, h7⟩ := h
  have hs := h7.size
  exact ⟨(hb.cell (by show b1 < _; omega)).trans h1, (hb.cell (by show b1 < _; omega)).trans h2, (hb.cell (by show b1 < _; omega)).trans h3, (hb.cell (by show b2 < _; omega)).trans h4, (hb.cell (by show b2 < _; omega)).trans h5, (hb.cell (by show b2 < _; omega)).trans h6, h7.trans (hb.mono hs)⟩
theorem held6_bel {w v : World} {b1 b2 : Nat} {u1 u2 u3 u4 u5 u6 : Value}
    (h : v.cell? ⟨b1, 0, none⟩ = some u1 ∧ v.cell? ⟨b1, 1, none⟩ = some u2 ∧ v.cell? ⟨b1, 2, none⟩ = some u3 ∧ v.cell? ⟨b2, 0, none⟩ = some u4 ∧ v.cell? ⟨b2, 1, none⟩ = some u5 ∧ v.cell? ⟨b2, 2, none⟩ = some u6 ∧ Below w.heap.size w v) : Below w.heap.size w v := h.2.2.2.2.2.2
theorem pairs_set : ∀ (L : List (Int × Int)) (k : Nat) (x y : Int), pairs (L.set k (x, y)) = ((pairs L).set (k * 2) (.int .i64 x)).set (k * 2 + 1) (.int .i64 y)
  | [], k, x, y => by simp [pairs]
  | p :: L, 0, x, y => by simp [pairs]
  | p :: L, k + 1, x, y => by
    rw [List.set_cons_succ, pairs_cons, pairs_cons, pairs_set L k x y, show (k + 1) * 2 = k * 2 + 1 + 1 from by omega]
    rfl
theorem tm_set (L : List (Int × Int)) (j i : Nat) (y : Int × Int) (hj : j < L.length) : tm (L.set j y) i = if i = j then y.1 else tm L i := by
  unfold tm
  by_cases h : i = j
  · subst h; simp [List.getD, hj]
  · rw [if_neg h]; simp [List.getD, Ne.symm h]
theorem pt_set (L : List (Int × Int)) (j i : Nat) (y : Int × Int) (hj : j < L.length) : pt (L.set j y) i = if i = j then y.2 else pt L i := by
  unfold pt
  by_cases h : i = j
  · subst h; simp [List.getD, hj]
  · rw [if_neg h]; simp [List.getD, Ne.symm h]
theorem OwnN.stored {e B : Nat} {w : World} {g n c : Nat} {L : List (Int × Int)} (h : OwnN e B w (.slice (some ⟨g, 0, none⟩) n c) L) (k : Nat) (x y : Int) :
    OwnN e B ((w.setCell ⟨g, k * 2, none⟩ (.int .i64 x)).setCell ⟨g, k * 2 + 1, none⟩ (.int .i64 y)) (.slice (some ⟨g, 0, none⟩) n c) (L.set k (x, y)) ∧
      w.grownBy ((w.setCell ⟨g, k * 2, none⟩ (.int .i64 x)).setCell ⟨g, k * 2 + 1, none⟩ (.int .i64 y)) (some g) := by
  have hn : n = L.length := by
    rcases h.2 with ⟨h', _⟩ | ⟨g', cap', cur, h', _⟩
    · cases h'
    · injection h'
  subst hn
  have h1 := World.ownsRow.stored h (k * 2) (.int .i64 x)
  have h2 := World.ownsRow.stored h1.1 (k * 2 + 1) (.int .i64 y)
  refine ⟨?_, grown_trans h1.2 h2.2⟩
  unfold OwnN
  rw [List.length_set, pairs_set]
  exact h2.1
theorem World.frozen_setCell (w : World) (a : Addr) (u : Value) (p : Addr) : (w.setCell a u).frozen? p = w.frozen? p := by simp [go_sem]
end Go.Proofs.Ytkbceojeahninaa
