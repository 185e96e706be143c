/- spec.DrawFew: a drawn cylinder with at most five pins. -/
import Derived.Test.YtkbceojeahninaaDPun
namespace Go.Proofs.Ytkbceojeahninaa
open Go.ChangeShapes Go.WideShapes Go.ChangeAt Go.RowKit
set_option linter.unusedVariables false
theorem cyl_take {s t : Int} {S : List (Int × Int)} (h : cylTo s t S S.length) (n : Nat) : cylTo s t (S.take n) (S.take n).length := by
  intro k hk
  have hk2 : k < n ∧ k < S.length := by simp at hk; omega
  have E : ∀ j, j < n → tm (S.take n) j = tm S j ∧ pt (S.take n) j = pt S j := fun j hj => by
    constructor <;> simp [tm, pt, List.getD, hj]
  have h1 := h k hk2.2
  unfold cylAt plAt at *
  rw [(E k hk2.1).1, (E k hk2.1).2, (E (k - 1) (by omega)).1, (E (k - 1) (by omega)).2]
  exact h1
theorem cyl_few {s t : Int} {S : List (Int × Int)} (h : cylTo s t S S.length) (hs : 4 ≤ s ∧ s ≤ 24) (ht : 1 ≤ t ∧ t ≤ 8) (hl : S.length ≤ 9) : cylB s t S = true := cylB_all ⟨hs.1, by omega⟩ ⟨ht.1, by omega⟩ (by omega) h
def FewR (g : Nat) (w : World) (en : Ending) (w' : World) : Prop :=
  ∃ (s t : Int) (A : Option Addr) (c : Nat) (P : List (Int × Int)), en = .returned (.agg #[.int .i64 s, .int .i64 t, .slice A P.length c]) ∧ cylB s t P = true ∧ P.length ≤ 5 ∧ (P = [] ∨ ∃ go, A = some ⟨go, 0, none⟩ ∧ w.heap.size ≤ go ∧ RdN w' A P) ∧ w.grownBy w' (some g)
theorem BoxC.up3 {w : World} {b xb : Nat} {s t : Int} {v u0 u1 u2 : Value} (h : BoxC w b s t v) (hne : b ≠ xb) : BoxC (((w.setCell ⟨xb, 0, none⟩ u0).setCell ⟨xb, 1, none⟩ u1).setCell ⟨xb, 2, none⟩ u2) b s t v := ((h.other hne).other hne).other hne
theorem rdn_grown {w w' : World} {go rb : Nat} {P : List (Int × Int)} (h : RdN w (some ⟨go, 0, none⟩) P) (hg : w.grownBy w' (some rb)) (hne : go ≠ rb) : RdN w' (some ⟨go, 0, none⟩) P := by
  intro hp
  obtain ⟨b, off, he, hlt, hc⟩ := h hp
  injection he with he
  injection he with h1 h2
  subst h1 h2
  exact ⟨go, 0, rfl, Nat.lt_of_lt_of_le hlt hg.size, fun j hj => ⟨hg.cell (hc j hj).1 (by simpa using hne), hg.cell (hc j hj).2 (by simpa using hne)⟩⟩
attribute [local irreducible] tm pt cylB in
set_option maxHeartbeats 3200000 in
theorem few_any (g : Nat) (w : World) (hc : Cur w g) : Calls Try.prog 70 #[.pointer (some ⟨g, 0, none⟩)] w (FewR g w) := by
  have hgw := hc.lt
  have hrb := BoxC.made w 56 0 0 (.slice none 0 0)
  have hbz : Below w.heap.size w (w.alloc (.cells #[.int .i64 0, .int .i64 0, .slice none 0 0] 56)) := (Below.refl _ _).alloc (Nat.le_refl _) _
  have hcz := hc.belowG hgw hbz
  have hgz : w.grownBy (w.alloc (.cells #[.int .i64 0, .int .i64 0, .slice none 0 0] 56)) (some g) := grown_bel (World.grownBy.refl _ _) hbz
  go_enter Try.func70, Try.ntmps70
  go_upto_region 1 with (fail)
  generalize hW : w.alloc _ = W at *
  have hWs : w.heap.size + 1 ≤ W.heap.size := hrb.2.2.2.2.2.2
  clear hW hbz
  go_wp2_with fail
  refine (cyl_any g _ hcz).mono ?_
  rintro e w2 ⟨s, t, v, S, rfl, hs, ht, hS, hSl, hv, hc2, hg2⟩
  have hr2 := hrb.keptG hg2 (by omega)
  have hgg2 := hgz.trans hg2
  have hv2 := hv.low hWs
  have HS := Lib.hid hS
  have HST := Lib.hid (And.intro hs ht)
  clear hrb hgz hg2 hcz hc hS hs ht hv
  rcases hv2 with ⟨rfl, rfl⟩ | ⟨go, co, rfl, ho⟩
  · have hxb := BoxC.made w2 56 s t (.slice none 0 0)
    have hbx : Below w2.heap.size w2 (w2.alloc (.cells #[.int .i64 s, .int .i64 t, .slice none 0 0] 56)) := (Below.refl _ _).alloc (Nat.le_refl _) _
    have hr3 := hr2.below hbx
    have hg3 := grown_bel hgg2 (hbx.mono hgg2.size)
    go_upto_region 2 with (fail)
    generalize hV : w2.alloc _ = V at *
    generalize w2.heap.size = xb at *
    clear hV
    obtain ⟨x0, x1, x2, x3, x4, x5, x6⟩ := id hxb
    obtain ⟨r0, r1, r2, r3, r4, r5, r6⟩ := hr3
    have HF := Lib.hid (cyl_few HS.out HST.out.1 HST.out.2 hSl)
    go_wp2
    have h3 := grown_trans (grown_set V w.heap.size 0 (.int .i64 s)) (grown_trans (grown_set _ w.heap.size 1 (.int .i64 t)) (grown_set _ w.heap.size 2 (.slice none 0 0)))
    have hB := grown_Below h3 hg3.size (fun k hk => by injection hk with hk; omega)
    exact bodyPost_ret (v := .agg #[.int .i64 s, .int .i64 t, .slice none 0 0]) (by simp [results, Try.results70, go_sem, r0, r1, r2]) rfl ⟨s, t, none, 0, [], rfl, HF.out, by simp, Or.inl rfl, grown_bel hg3 hB⟩
  · have hxb := BoxC.made w2 56 s t (.slice (some ⟨go, 0, none⟩) S.length co)
    have hbx : Below w2.heap.size w2 (w2.alloc (.cells #[.int .i64 s, .int .i64 t, .slice (some ⟨go, 0, none⟩) S.length co] 56)) := (Below.refl _ _).alloc (Nat.le_refl _) _
    have hr3 := hr2.below hbx
    have hg3 := grown_bel hgg2 (hbx.mono hgg2.size)
    have ho3 := ho.below hbx rfl
    have hgo := ho.blk go rfl
    have hco : S.length ≤ co := own_cap ho
    go_upto_region 2 with (fail)
    generalize hV : w2.alloc _ = V at *
    generalize w2.heap.size = xb at *
    clear hV
    obtain ⟨x0, x1, x2, x3, x4, x5, x6⟩ := id hxb
    obtain ⟨r0, r1, r2, r3, r4, r5, r6⟩ := id hr3
    by_cases h5 : 5 < S.length
    · have h5i : (5 : Int) < (S.length : Int) := by omega
      have h5c : (5 : Int) ≤ (co : Int) := by omega
      have HF := Lib.hid (cyl_few (cyl_take HS.out 5) HST.out.1 HST.out.2 (by simp; omega))
      have HT5 := Lib.hid (show (S.take 5).length = 5 by simp; omega)
      go_upto_region 4 with (fail)
      generalize hV2 : V.setCell _ _ = V2
      have hst := grown_set V xb 2 (.slice (some ⟨go, 0, none⟩) 5 co)
      have hx5 : BoxC V2 xb s t (.slice (some ⟨go, 0, none⟩) 5 co) := by rw [← hV2]; exact hxb.stored
      have hr5 : BoxC V2 w.heap.size 0 0 (.slice none 0 0) := by rw [← hV2]; exact hr3.other (by omega)
      have ho5 := ho3.keep hst (Or.inr (by intro e; simp [Value.ownBlock] at e; omega))
      have hg5 := grown_bel hg3 (grown_Below hst hg3.size (fun k hk => by injection hk with hk; omega))
      rw [hV2] at ho5 hg5
      clear hV2 hxb hr3 ho3 hg3 hst x0 x1 x2 x3 x4 x5 x6 r0 r1 r2 r3 r4 r5 r6
      obtain ⟨x0, x1, x2, x3, x4, x5, x6⟩ := id hx5
      obtain ⟨r0, r1, r2, r3, r4, r5, r6⟩ := id hr5
      go_wp2
      have h3 := grown_trans (grown_set V2 w.heap.size 0 (.int .i64 s)) (grown_trans (grown_set _ w.heap.size 1 (.int .i64 t)) (grown_set _ w.heap.size 2 (.slice (some ⟨go, 0, none⟩) 5 co)))
      have hB := grown_Below h3 hg5.size (fun k hk => by injection hk with hk; omega)
      have ho6 := ho5.keep h3 (Or.inr (by intro e; simp [Value.ownBlock] at e; omega))
      exact bodyPost_ret (v := .agg #[.int .i64 s, .int .i64 t, .slice (some ⟨go, 0, none⟩) 5 co]) (by simp [results, Try.results70, go_sem, r0, r1, r2]) rfl ⟨s, t, _, co, S.take 5, by rw [HT5.out], HF.out, by rw [HT5.out]; omega, Or.inr ⟨go, rfl, by omega, rd_take 5 ho6.rdA⟩, grown_bel hg5 hB⟩
    · have h5i : ¬ (5 : Int) < (S.length : Int) := by omega
      have HF := Lib.hid (cyl_few HS.out HST.out.1 HST.out.2 hSl)
      go_wp2
      have h3 := grown_trans (grown_set V w.heap.size 0 (.int .i64 s)) (grown_trans (grown_set _ w.heap.size 1 (.int .i64 t)) (grown_set _ w.heap.size 2 (.slice (some ⟨go, 0, none⟩) S.length co)))
      have hB := grown_Below h3 hg3.size (fun k hk => by injection hk with hk; omega)
      have ho4 := ho3.keep h3 (Or.inr (by intro e; simp [Value.ownBlock] at e; omega))
      exact bodyPost_ret (v := .agg #[.int .i64 s, .int .i64 t, .slice (some ⟨go, 0, none⟩) S.length co]) (by simp [results, Try.results70, go_sem, r0, r1, r2]) rfl ⟨s, t, _, co, S, rfl, HF.out, by omega, Or.inr ⟨go, rfl, by omega, ho4.rdA⟩, grown_bel hg3 hB⟩
attribute [local irreducible] tm pt cylB in
set_option maxHeartbeats 1600000 in
theorem draw_few (w : World) (A : Option Addr) (n c : Nat) (hn : n ≤ 1048576) (hr : RdU w A n w.heap.size) : Calls Try.prog 36 #[.slice A n c] w fun en w' =>
    ∃ (s t : Int) (A : Option Addr) (c : Nat) (P : List (Int × Int)), en = .returned (.agg #[.int .i64 s, .int .i64 t, .slice A P.length c]) ∧ cylB s t P = true ∧ P.length ≤ 5 ∧ RdN w' A P ∧ Below w.heap.size w w' := by
  have hrb := BoxC.made w 56 0 0 (.slice none 0 0)
  have hbz : Below w.heap.size w (w.alloc (.cells #[.int .i64 0, .int .i64 0, .slice none 0 0] 56)) := (Below.refl _ _).alloc (Nat.le_refl _) _
  have hr1 := hr.below hbz rfl
  go_enter Try.func36, Try.ntmps36
  go_upto_region 1 with (fail)
  generalize hW : w.alloc _ = W at *
  have hWs : w.heap.size + 1 ≤ W.heap.size := hrb.2.2.2.2.2.2
  clear hW
  go_wp2_with fail
  refine (new_any W A n c hn (fun h0 => by obtain ⟨b, o, e, hb, hc⟩ := hr1 h0; exact ⟨b, o, e, by omega, hc⟩)).mono ?_
  rintro e w1 ⟨g, hg, rfl, hc, hb1⟩
  have hr2 := hrb.below hb1
  have hbb := hbz.trans (hb1.mono (by omega))
  have hb1s : w.heap.size < w1.heap.size := by have := hb1.size; omega
  go_wp2_with fail
  refine (few_any g w1 hc).mono ?_
  rintro e w2 ⟨s, t, A2, c2, P, rfl, hP, hPl, hrd, hg2⟩
  obtain ⟨r0, r1, r2, r3, r4, r5, r6⟩ := hr2.keptG hg2 (by omega)
  have hB2 := bel_new hbb (by omega) hg2
  clear hrb hbz hr1 hr hr2 hc hb1
  go_wp2
  have h3 := grown_trans (grown_set w2 w.heap.size 0 (.int .i64 s)) (grown_trans (grown_set _ w.heap.size 1 (.int .i64 t)) (grown_set _ w.heap.size 2 (.slice A2 P.length c2)))
  have hB := grown_Below h3 hB2.size (fun k hk => by injection hk with hk; omega)
  refine bodyPost_ret (v := .agg #[.int .i64 s, .int .i64 t, .slice A2 P.length c2]) (by simp [results, Try.results36, go_sem, r0, r1, r2]) rfl ⟨s, t, A2, c2, P, rfl, hP, hPl, ?_, hB2.trans hB⟩
  rcases hrd with rfl | ⟨go, rfl, hgo, hrd⟩
  · intro h; simp at h
  · exact rdn_grown hrd h3 (by have := hb1s; omega)
end Go.Proofs.Ytkbceojeahninaa
