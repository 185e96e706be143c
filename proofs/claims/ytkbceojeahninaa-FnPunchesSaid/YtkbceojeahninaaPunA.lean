/- append of integers in a drawn region, at an operation that a guard lets through; and a way of given length. -/
import Derived.Test.YtkbceojeahninaaStI
import Derived.Test.YtkbceojeahninaaWay
import Derived.Laws.AppendOwnNone
namespace Go.Proofs.Ytkbceojeahninaa
open Go.ChangeShapes Go.WideShapes Go.ChangeAt Go.RowKit
set_option linter.unusedVariables false
section
variable {P : Program} {ops : Array Oper} {o : Oper} {a : Act} {Q : Exit → Act → World → Prop} {W : World}
/-- append(l, m..) in a region that draws its order; l is not nil; the operation is wanted. -/
theorem step_app_ints_w {K : Act → World → Prop} {E : Prop} (hw : Region.wanted o (yielded ops a.tmps) = true) (s x : Operand) (t : TypeId) (ho : o.op = .call { callee := .builtin .append, args := #[s, x], argTypes := #[t, t] })
    (e : TypeId) (ht : P.underlying t = some (.slice e)) (hI : (P.info? e).map (fun i => (i.zero, i.size, i.bytes)) = some (some (.int .i64 0), 1, 8))
    (B g0 c0 n0 n1 : Nat) (l m : List Int) (A : Option Addr) (c : Nat) (hs : a.eval s = .slice (some ⟨g0, 0, none⟩) n0 c0) (hx : a.eval x = .slice A n1 c) (hn0 : l.length = n0) (hn1 : m.length = n1) (hA : A.isSome = true) (hown : OwnI e B W (.slice (some ⟨g0, 0, none⟩) n0 c0) l) (hrd : RdI W A m) (hlen : l.length + m.length ≤ 1000000000) (hB : B ≤ W.heap.size)
    (h : ∀ g' c' w', OwnI e B w' (.slice (some ⟨g', 0, none⟩) (l ++ m).length c') (l ++ m) → Below B W w' → W.grownBy w' (some g0) → K (a.put o.dst (.slice (some ⟨g', 0, none⟩) (l ++ m).length c')) w') :
    if Region.wanted o (yielded ops a.tmps) = true then Oper.wp P o a W K Q else E := by
  obtain ⟨i, hi, hz, hsz, hby⟩ := info_parts hI
  obtain ⟨p, rfl⟩ := Option.isSome_iff_exists.1 hA
  subst hn0 hn1
  rw [if_pos hw]
  by_cases hm0 : m = []
  · subst hm0
    have hroom : l.length + 0 ≤ c0 := by
      obtain ⟨A', c', he, h3, h4, _⟩ := hown.rd
      injection he with _ _ he
      subst he
      omega
    have hr := run_append_room_cells (P := P) (w := W) t o.type e i ht hi g0 0 l.length c0 p 0 c [] (by simp) (by simp) (by simp) hroom (by simp) (by simp)
    rw [List.length_nil] at hx
    unfold Oper.wp execOp
    simp only [ho, resolve, invoke, builtin, Sem.run_bind, Sem.run_pure, Result.andThen_ok, List.map_toArray, List.map_cons, List.map_nil, hs, hx, hr]
    have h9 := h g0 c0 W (by simpa using hown) (Below.refl _ _) (World.grownBy.refl _ _)
    rw [List.append_nil] at h9
    exact h9
  · have hpos : 0 < m.length := by cases m with | nil => exact absurd rfl hm0 | cons x m => simp
    have hcells : ∀ j u, (ints m)[j]? = some u → W.cell? (p.add j) = some u := by
      intro j u hj
      have hjl : j < m.length := by
        rcases Nat.lt_or_ge j m.length with h | h
        · exact h
        · rw [List.getElem?_eq_none (by rw [ints_length]; exact h)] at hj; cases hj
      obtain ⟨b, off, he, _, hc⟩ := hrd (by omega)
      cases he
      have hadd : (⟨b, off, none⟩ : Addr).add j = ⟨b, off + j, none⟩ := by
        unfold Addr.add
        split
        · rename_i h0; subst h0; rfl
        · rfl
      rw [hadd]
      rw [ints_get m j hjl] at hj
      cases hj
      exact hc j hjl
    obtain ⟨v', w', hr, h2, h3, h4⟩ := run_append_own (P := P) W B t o.type e i (.int .i64 0) 1 8 ht hi hz hsz hby rfl (by decide) _ l.length (ints l) hown p m.length c (ints m) (by rw [ints_length]; omega) hcells (ints_one m) (by unfold maxLen; omega) (by omega) hB
    have hb := grown_below' hown h3 hB
    have hown' : OwnI e B w' v' (l ++ m) := by
      unfold OwnI
      rw [ints_app, List.length_append]
      exact h2
    unfold Oper.wp execOp
    simp only [ho, resolve, invoke, builtin, Sem.run_bind, Sem.run_pure, Result.andThen_ok, List.map_toArray, List.map_cons, List.map_nil, hs, hx, hr]
    rcases hown'.2 with ⟨_, hn⟩ | ⟨g', cap, cur, rfl, _⟩
    · rw [List.length_append] at hn; omega
    · exact h g' cap w' hown' hb h3
/-- append(l, nil..), integers. -/
theorem step_app_noneI_w {K : Act → World → Prop} {E : Prop} (hw : Region.wanted o (yielded ops a.tmps) = true) (s x : Operand) (t : TypeId) (ho : o.op = .call { callee := .builtin .append, args := #[s, x], argTypes := #[t, t] })
    (e : TypeId) (ht : P.underlying t = some (.slice e)) (hI : (P.info? e).map (fun i => (i.zero, i.size, i.bytes)) = some (some (.int .i64 0), 1, 8))
    (B : Nat) (v : Value) (l : List Int) (n c : Nat) (hn : n = 0) (hc : c = 0) (hs : a.eval s = v) (hx : a.eval x = .slice none n c) (hown : OwnI e B W v l) (h : K (a.put o.dst v) W) :
    if Region.wanted o (yielded ops a.tmps) = true then Oper.wp P o a W K Q else E := by
  subst hn hc
  obtain ⟨i, hi, hz, hsz, hby⟩ := info_parts hI
  rw [if_pos hw]
  have hrun := run_append_owned_none (P := P) (w := W) B t o.type e i 1 ht hi v l.length (ints l) hown
  unfold Oper.wp
  simp [execOp, ho, resolve, invoke, builtin, hs, hx, hrun, Result.andThen]
  exact h
end
theorem impl_WayN (s t : Int) (A B : Option Addr) (c d n : Nat) (P : List (Int × Int)) (l : List Int) (w : World) (hn : l.length = n) (hrd : RdN w A P) (hro : RdI w B l) (hP : P.length ≤ 1000000000) (hl : l.length ≤ 1000000000) :
    Calls Try.prog 40 #[.agg #[.int .i64 s, .int .i64 t, .slice A P.length c], .slice B n d] w fun e w' => e = .returned (.int .i64 (wayZ s t P l)) ∧ Below w.heap.size w w' := by
  subst hn
  exact impl_Way s t A B c d P l w hrd hro hP hl
end Go.Proofs.Ytkbceojeahninaa
