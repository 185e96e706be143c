/- append of integers in a region that draws its order, and its neighbours. -/
import Derived.Test.YtkbceojeahninaaHeld
import Derived.Deep.RegionHeld3
namespace Go.Proofs.Ytkbceojeahninaa
open Go.ChangeShapes Go.WideShapes Go.ChangeAt Go.RowKit
set_option linter.unusedVariables false
section
variable {P : Program} {ops : Array Oper} {o : Oper} {a : Act} {Q : Exit → Act → World → Prop} {W : World}
/-- append(l, m..) in a region that draws its order; l is not nil. -/
theorem step_app_ints {K : Act → World → Prop} {E : Prop} (hgd : o.guard = none) (s x : Operand) (t : TypeId) (ho : o.op = .call { callee := .builtin .append, args := #[s, x], argTypes := #[t, t] })
    (e : TypeId) (ht : P.underlying t = some (.slice e)) (hI : (P.info? e).map (fun i => (i.zero, i.size, i.bytes)) = some (some (.int .i64 0), 1, 8))
    (B g0 c0 n0 n1 : Nat) (l m : List Int) (A : Option Addr) (c : Nat) (hs : a.eval s = .slice (some ⟨g0, 0, none⟩) n0 c0) (hx : a.eval x = .slice A n1 c) (hn0 : l.length = n0) (hn1 : m.length = n1) (hA : A.isSome = true) (hown : OwnI e B W (.slice (some ⟨g0, 0, none⟩) n0 c0) l) (hrd : RdI W A m) (hlen : l.length + m.length ≤ 1000000000) (hB : B ≤ W.heap.size)
    (h : ∀ g' c' w', OwnI e B w' (.slice (some ⟨g', 0, none⟩) (l ++ m).length c') (l ++ m) → Below B W w' → W.grownBy w' (some g0) → K (a.put o.dst (.slice (some ⟨g', 0, none⟩) (l ++ m).length c')) w') :
    if Region.wanted o (yielded ops a.tmps) = true then Oper.wp P o a W K Q else E := by
  obtain ⟨i, hi, hz, hsz, hby⟩ := info_parts hI
  obtain ⟨p, rfl⟩ := Option.isSome_iff_exists.1 hA
  subst hn0 hn1
  have hw : Region.wanted o (yielded ops a.tmps) = true := by simp [Region.wanted, hgd]
  rw [if_pos hw]
  by_cases hm0 : m = []
  · subst hm0
    have hroom : l.length + 0 ≤ c0 := by
      obtain ⟨A', c', he, h3, h4, _⟩ := hown.rd
      injection he with _ _ he
      subst he
      omega
    have hr := run_append_room_cells (P := P) (w := W) t o.type e i ht hi g0 0 l.length c0 p 0 c [] (by simp) (by simp) (by simp) hroom (by simp) (by simp)
    rw [List.length_nil] at hx
    unfold Oper.wp execOp
    simp only [ho, resolve, invoke, builtin, Sem.run_bind, Sem.run_pure, Result.andThen_ok, List.map_toArray, List.map_cons, List.map_nil, hs, hx, hr]
    have h9 := h g0 c0 W (by simpa using hown) (Below.refl _ _) (World.grownBy.refl _ _)
    rw [List.append_nil] at h9
    exact h9
  · have hpos : 0 < m.length := by cases m with | nil => exact absurd rfl hm0 | cons x m => simp
    have hcells : ∀ j u, (ints m)[j]? = some u → W.cell? (p.add j) = some u := by
      intro j u hj
      have hjl : j < m.length := by
        rcases Nat.lt_or_ge j m.length with h | h
        · exact h
        · rw [List.getElem?_eq_none (by rw [ints_length]; exact h)] at hj; cases hj
      obtain ⟨b, off, he, _, hc⟩ := hrd (by omega)
      cases he
      have hadd : (⟨b, off, none⟩ : Addr).add j = ⟨b, off + j, none⟩ := by
        unfold Addr.add
        split
        · rename_i h0; subst h0; rfl
        · rfl
      rw [hadd]
      rw [ints_get m j hjl] at hj
      cases hj
      exact hc j hjl
    obtain ⟨v', w', hr, h2, h3, h4⟩ := run_append_own (P := P) W B t o.type e i (.int .i64 0) 1 8 ht hi hz hsz hby rfl (by decide) _ l.length (ints l) hown p m.length c (ints m) (by rw [ints_length]; omega) hcells (ints_one m) (by unfold maxLen; omega) (by omega) hB
    have hb := grown_below' hown h3 hB
    have hown' : OwnI e B w' v' (l ++ m) := by
      unfold OwnI
      rw [ints_app, List.length_append]
      exact h2
    unfold Oper.wp execOp
    simp only [ho, resolve, invoke, builtin, Sem.run_bind, Sem.run_pure, Result.andThen_ok, List.map_toArray, List.map_cons, List.map_nil, hs, hx, hr]
    rcases hown'.2 with ⟨_, hn⟩ | ⟨g', cap, cur, rfl, _⟩
    · rw [List.length_append] at hn; omega
    · exact h g' cap w' hown' hb h3
end
theorem iz_c {W0 : World} {n : Nat} {o : Obj} (h0 : n ≤ W0.heap.size) : n ≤ (W0.alloc o).heap.size :=
  Nat.le_trans h0 (((Below.refl W0.heap.size W0).alloc (Nat.le_refl _) o)).size
theorem iz1 (V : World) (o : Obj) : (V.alloc o).heap.size = V.heap.size + 1 := by simp
theorem ird_kept {V w' : World} {gb g0 : Nat} {x : Int} (h : RdI V (some ⟨gb, 0, none⟩) [x]) (hg : V.grownBy w' (some g0)) (hne : gb ≠ g0) : RdI w' (some ⟨gb, 0, none⟩) [x] := by
  intro _
  obtain ⟨b, off, he, hlt, hc⟩ := h (by simp)
  injection he with he
  injection he with h1 h2
  subst h1 h2
  exact ⟨gb, 0, rfl, Nat.lt_of_lt_of_le hlt hg.size, fun j hj => hg.cell (hc j hj) (by simpa using hne)⟩
theorem ird_alloc {V : World} {A : Option Addr} {l : List Int} (h : RdI V A l) (o : Obj) : RdI (V.alloc o) A l := h.below ((Below.refl _ _).alloc (Nat.le_refl _) o) rfl
theorem ird_drew {V : World} {A : Option Addr} {l : List Int} (h : RdI V A l) : RdI V.drew A l := h
theorem iown_drew {V : World} {e B : Nat} {v : Value} {l : List Int} (h : OwnI e B V v l) : OwnI e B V.drew v l := h
theorem ird_one (V : World) (e : TypeId) (x : Int) : RdI (V.alloc (.cells #[.int .i64 x] e)) (some ⟨V.heap.size, 0, none⟩) [x] := by
  intro _
  refine ⟨V.heap.size, 0, rfl, by simp, fun j hj => ?_⟩
  obtain rfl : j = 0 := by simp at hj; omega
  simp [go_sem, gt]
theorem ird_one1 (V : World) (o : Obj) (e : TypeId) (x : Int) : RdI ((V.alloc o).alloc (.cells #[.int .i64 x] e)) (some ⟨V.heap.size + 1, 0, none⟩) [x] := by
  have h := ird_one (V.alloc o) e x
  rwa [iz1 V o] at h
theorem iown_one1 (V : World) (o : Obj) (e : TypeId) : OwnI e V.heap.size ((V.alloc o).alloc (.cells #[] e)) (.slice (some ⟨V.heap.size + 1, 0, none⟩) 0 0) [] := by
  have h := (OwnI.lit0 (V.alloc o) e).base_le (iz_c (o := o) (Nat.le_refl V.heap.size))
  rwa [iz1 V o] at h
theorem hd3C_keep {w v u : World} {p1 p2 p3 : Addr} {u1 u2 u3 : Value} (l1 : p1.block < w.heap.size) (l2 : p2.block < w.heap.size) (l3 : p3.block < w.heap.size)
    (h : v.cell? p1 = some u1 ∧ v.cell? p2 = some u2 ∧ v.cell? p3 = some u3 ∧ Below w.heap.size w v) (hb : Below w.heap.size v u) :
    u.cell? p1 = some u1 ∧ u.cell? p2 = some u2 ∧ u.cell? p3 = some u3 ∧ Below w.heap.size w u := by
  obtain ⟨h1, h2, h3, h0⟩ := h
  exact ⟨(hb.cell l1).trans h1, (hb.cell l2).trans h2, (hb.cell l3).trans h3, h0.trans hb⟩
end Go.Proofs.Ytkbceojeahninaa
