/- spec.l06Put: a pin put into no pins. -/
import Derived.Test.YtkbceojeahninaaPut
import Derived.Laws.AppendOwnNone
namespace Go.Proofs.Ytkbceojeahninaa
open Go.ChangeShapes Go.WideShapes Go.ChangeAt Go.RowKit
set_option linter.unusedVariables false
section
variable {P : Program} {ops : Array Oper} {o : Oper} {a : Act} {Q : Exit → Act → World → Prop} {W : World}
/-- append(l, nil..) in a region that draws its order. -/
theorem step_app_none {K : Act → World → Prop} {E : Prop} (hgd : o.guard = none) (s x : Operand) (t : TypeId) (ho : o.op = .call { callee := .builtin .append, args := #[s, x], argTypes := #[t, t] })
    (e : TypeId) (ht : P.underlying t = some (.slice e)) (hI : (P.info? e).map (fun i => (i.zero, i.size, i.bytes)) = some (some (.agg #[.int .i64 0, .int .i64 0]), 2, 16))
    (B : Nat) (v : Value) (l : List (Int × Int)) (hs : a.eval s = v) (hx : a.eval x = .slice none 0 0) (hown : OwnN e B W v l) (h : K (a.put o.dst v) W) :
    if Region.wanted o (yielded ops a.tmps) = true then Oper.wp P o a W K Q else E := by
  obtain ⟨i, hi, hz, hsz, hby⟩ := info_parts hI
  have hw : Region.wanted o (yielded ops a.tmps) = true := by simp [Region.wanted, hgd]
  rw [if_pos hw]
  have hrun := run_append_owned_none (P := P) (w := W) B t o.type e i 2 ht hi v l.length (pairs l) hown
  unfold Oper.wp
  simp [execOp, ho, resolve, invoke, builtin, hs, hx, hrun, Result.andThen]
  exact h
end
theorem one_ok2 {s t x y : Int} (hx : 0 ≤ x ∧ x ≤ t - 1) (hy : 0 ≤ y ∧ y ≤ s - 1) : cylTo s t [(x, y)] [(x, y)].length := by
  intro k hk
  have : k = 0 := by simp at hk; exact hk
  subst this
  exact ⟨hx, hy, fun h => by omega⟩
attribute [local irreducible] tm pt lessB in
set_option maxHeartbeats 3200000 in
theorem put_nil (s t x y : Int) (w : World) (hx : 0 ≤ x ∧ x ≤ t - 1) (hy : 0 ≤ y ∧ y ≤ s - 1) :
    Calls Try.prog 110 #[.slice none 0 0, .agg #[.int .i64 x, .int .i64 y]] w (PutR s t 65 0 w) := by
  obtain ⟨W0, hW0⟩ : ∃ W, W = w.alloc (.cells #[.int .i64 x, .int .i64 y] 65) := ⟨_, rfl⟩
  have hbw : Below w.heap.size w W0 := by rw [hW0]; exact (Below.refl _ _).alloc (Nat.le_refl _) _
  have s0 : w.heap.size < W0.heap.size := by rw [hW0]; simp
  have k1 : W0.cell? ⟨w.heap.size, 0, none⟩ = some (.int .i64 x) := by rw [hW0]; simp [go_sem]
  have k2 : W0.cell? ⟨w.heap.size, 0 + 1, none⟩ = some (.int .i64 y) := by rw [hW0]; simp [go_sem]
  have HW0 := Lib.hid hW0
  have HX := Lib.hid (one_ok2 hx hy)
  clear hW0
  go_enter Try.func110, Try.ntmps110
  go_upto_region 1 with (fail)
  rw [← HW0.out]
  go_wp2
  go_loopw [6] (fun i wt => i = .int .i64 0 ∧ wt = W0) (fun i _ => 0)
  case atStart => exact ⟨rfl, rfl⟩
  case round =>
    obtain ⟨rfl, rfl⟩ := hrel
    go_wp2_with fail
    go_quiet (fail)
    go_wp2_with fail
    go_quiet (fail)
    go_upto_region 6 with fail
    generalize hWq : ((World.drewN (World.drewN _ _) _)) = V0
    have hb0 : Below wr.heap.size wr V0 := by rw [← hWq]; exact bel_drewN (bel_drewN (Below.refl _ _) _) _
    have k1q := (hb0.cell (p := ⟨w.heap.size, 0, none⟩) s0).trans k1
    have k2q := (hb0.cell (p := ⟨w.heap.size, 0 + 1, none⟩) s0).trans k2
    have mbq : w.heap.size < V0.heap.size := Nat.lt_of_lt_of_le s0 hb0.size
    clear hWq
    go_region_held3 (fun w' => w'.cell? ⟨w.heap.size, 0, none⟩ = some (.int .i64 x) ∧ w'.cell? ⟨w.heap.size, 0 + 1, none⟩ = some (.int .i64 y) ∧ Below V0.heap.size V0 w')
      (first | exact ⟨k1q, k2q, (Below.refl _ _).drew⟩ | exact ⟨k1q, k2q, Below.refl _ _⟩ | assumption | exact heldB_keep mbq (by assumption) (((Below.refl _ _).alloc (Nat.le_refl _) _).drew) | exact heldB_keep mbq (by assumption) (((Below.refl _ _).alloc (Nat.le_refl _) _)) | exact heldC_keep mbq (by assumption) hbn2)
      (first
        | (refine step_app_none rfl (.tmp 36) (.tmp 39) _ rfl 65 Try.underlying54 (by kernel_rfl) V0.heap.size _ [] rfl rfl (by first | exact OwnN.lit0 V0 _ | exact (OwnN.lit0 V0 _).alloc _ | exact (own_drew (OwnN.lit0 V0 _)).alloc _ | exact own_one1 _ _ _) ?_)
        | (refine step_app_pairs rfl (.tmp 40) (.tmp 42) _ rfl 65 Try.underlying54 (by kernel_rfl) V0.heap.size _ _ _ _ [] [(x, y)] _ 1 rfl rfl rfl rfl rfl (by first | exact OwnN.lit0 V0 _ | exact (OwnN.lit0 V0 _).alloc _ | exact (own_drew (OwnN.lit0 V0 _)).alloc _ | exact own_one1 _ _ _) (by first | exact rd_one _ _ _ _ | exact rd_one1 _ _ _ _ _ | exact rd_alloc (rd_one _ _ _ _) _ | exact rd_drew (rd_one1 _ _ _ _ _) | exact rd_drew (rd_alloc (rd_one _ _ _ _) _)) (by simp) (heldB_bel (by assumption)).size ?_; intro g2 c2 w2 hown2 hbn2 hgr2)
        | (refine step_app_none rfl (.tmp 43) (.tmp 46) _ rfl 65 Try.underlying54 (by kernel_rfl) V0.heap.size _ ([] ++ [(x, y)]) rfl rfl hown2 ?_))
    all_goals
      have hB3 : Below w.heap.size w w2 := hbw.trans ((hb0.trans ((heldB_bel (by assumption)).mono hb0.size)).mono hbw.size)
      go_wp2
      all_goals
        go_ret2
        exact ⟨[(x, y)], g2, c2, true, by first | rfl | (simp; done), hown2.base_le (Nat.le_trans hbw.size hb0.size), HX.out, by simp, hB3⟩
end Go.Proofs.Ytkbceojeahninaa
