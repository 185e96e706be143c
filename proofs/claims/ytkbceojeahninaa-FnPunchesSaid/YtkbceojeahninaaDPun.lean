/- The draw of a cylinder with few pins. -/
import Derived.Test.YtkbceojeahninaaPutN
import Derived.Test.YtkbceojeahninaaDTune
import Derived.Deep.RegionLaw
namespace Go.Proofs.Ytkbceojeahninaa
open Go.ChangeShapes Go.WideShapes Go.ChangeAt Go.RowKit
set_option linter.unusedVariables false
/-- What stands in the field Pins: no pins, or an own row. -/
def PinV (e B : Nat) (w : World) (v : Value) (S : List (Int × Int)) : Prop := (v = .slice none 0 0 ∧ S = []) ∨ ∃ go co, v = .slice (some ⟨go, 0, none⟩) S.length co ∧ OwnN e B w v S
theorem PinV.keptG {e B g : Nat} {w w' : World} {v : Value} {S : List (Int × Int)} (h : PinV e B w v S) (hg : w.grownBy w' (some g)) (hgB : g < B) : PinV e B w' v S := by
  rcases h with h | ⟨go, co, h1, h2⟩
  · exact Or.inl h
  · subst h1; exact Or.inr ⟨go, co, rfl, h2.keptG hg hgB⟩
/-- A cylinder's box. -/
def BoxC (w : World) (b : Nat) (s t : Int) (v : Value) : Prop := w.cell? ⟨b, 0, none⟩ = some (.int .i64 s) ∧ w.cell? ⟨b, 1, none⟩ = some (.int .i64 t) ∧ w.cell? ⟨b, 2, none⟩ = some v ∧ w.frozen? ⟨b, 0, none⟩ = false ∧ w.frozen? ⟨b, 1, none⟩ = false ∧ w.frozen? ⟨b, 2, none⟩ = false ∧ b < w.heap.size
theorem fz_kept {w w' : World} {g b o : Nat} (hg : w.grownBy w' (some g)) (hb : b < w.heap.size) (hne : b ≠ g) : w'.frozen? ⟨b, o, none⟩ = w.frozen? ⟨b, o, none⟩ := by
  unfold World.frozen?
  rw [hg.block b hb (by simpa using hne)]
theorem BoxC.keptG {w w' : World} {g b : Nat} {s t : Int} {v : Value} (h : BoxC w b s t v) (hg : w.grownBy w' (some g)) (hne : b ≠ g) : BoxC w' b s t v := by
  obtain ⟨h1, h2, h3, h4, h5, h6, h7⟩ := h
  exact ⟨hg.cell h1 (by simpa using hne), hg.cell h2 (by simpa using hne), hg.cell h3 (by simpa using hne), by rw [fz_kept hg h7 hne]; exact h4, by rw [fz_kept hg h7 hne]; exact h5, by rw [fz_kept hg h7 hne]; exact h6, Nat.lt_of_lt_of_le h7 hg.size⟩
theorem BoxC.below {w w' : World} {b : Nat} {s t : Int} {v : Value} (h : BoxC w b s t v) (hb : Below w.heap.size w w') : BoxC w' b s t v := by
  obtain ⟨h1, h2, h3, h4, h5, h6, h7⟩ := h
  exact ⟨(hb.cell (p := ⟨b, 0, none⟩) h7).trans h1, (hb.cell (p := ⟨b, 1, none⟩) h7).trans h2, (hb.cell (p := ⟨b, 2, none⟩) h7).trans h3, (hb.frozen (p := ⟨b, 0, none⟩) h7).trans h4, (hb.frozen (p := ⟨b, 1, none⟩) h7).trans h5, (hb.frozen (p := ⟨b, 2, none⟩) h7).trans h6, Nat.lt_of_lt_of_le h7 hb.size⟩
theorem BoxC.made (w : World) (e : TypeId) (s t : Int) (v : Value) : BoxC (w.alloc (.cells #[.int .i64 s, .int .i64 t, v] e)) w.heap.size s t v :=
  ⟨by simp [go_sem], by simp [go_sem], by simp [go_sem], by simp [go_sem], by simp [go_sem], by simp [go_sem], by simp⟩
def CylR (g : Nat) (e : Nat) (w : World) (en : Ending) (w' : World) : Prop :=
  ∃ (s t : Int) (v : Value) (S : List (Int × Int)), en = .returned (.agg #[.int .i64 s, .int .i64 t, v]) ∧ (4 ≤ s ∧ s ≤ 24) ∧ (1 ≤ t ∧ t ≤ 8) ∧ cylTo s t S S.length ∧ S.length ≤ 9 ∧ PinV e w.heap.size w' v S ∧ Cur w' g ∧ w.grownBy w' (some g)
theorem put_v {e B : Nat} {v : Value} {S : List (Int × Int)} (s t x y : Int) (w : World) (hv : PinV e B w v S) (hl : S.length ≤ 40) (hx : 0 ≤ x ∧ x ≤ t - 1) (hy : 0 ≤ y ∧ y ≤ s - 1) (hS : cylTo s t S S.length) :
    Calls Try.prog 110 #[v, .agg #[.int .i64 x, .int .i64 y]] w (PutR s t 65 S.length w) := by
  rcases hv with ⟨rfl, rfl⟩ | ⟨go, co, rfl, ho⟩
  · exact put_nil s t x y w hx hy
  · obtain ⟨A', c', he, h3, h4, h5⟩ := ho.rd
    injection he with he1 he2 he3
    subst he1 he3
    exact put_any s t go co S x y w ho.rdA h3 h4 hS hx hy hl
theorem BoxC.other {w : World} {b xb o : Nat} {s t : Int} {v u : Value} (h : BoxC w b s t v) (hne : b ≠ xb) : BoxC (w.setCell ⟨xb, o, none⟩ u) b s t v := h.keptG (grown_set w xb o u) hne
theorem BoxC.stored {w : World} {b : Nat} {s t : Int} {v u : Value} (h : BoxC w b s t v) : BoxC (w.setCell ⟨b, 2, none⟩ u) b s t u := by
  obtain ⟨h1, h2, h3, h4, h5, h6, h7⟩ := h
  exact ⟨by simp [go_sem, h1], by simp [go_sem, h2], by simp [go_sem, h3], by simp [go_sem, h4], by simp [go_sem, h5], by simp [go_sem, h6], by simp; exact h7⟩
/-- What stands behind the store of the field. -/
theorem pun_end {e g xb gM cM : Nat} {w w6 w7 : World} {s t s0 t0 : Int} {v v0 : Value} {M : List (Int × Int)} (ho : OwnN e w6.heap.size w7 (.slice (some ⟨gM, 0, none⟩) M.length cM) M) (hb : Below w6.heap.size w6 w7) (hx : BoxC w6 xb s t v) (hr : BoxC w6 w.heap.size s0 t0 v0) (hc : Cur w6 g) (hg : w.grownBy w6 (some g)) (hgw : g < w.heap.size) (hxg : w.heap.size < xb) :
    BoxC (w7.setCell ⟨xb, 2, none⟩ (.slice (some ⟨gM, 0, none⟩) M.length cM)) w.heap.size s0 t0 v0 ∧ BoxC (w7.setCell ⟨xb, 2, none⟩ (.slice (some ⟨gM, 0, none⟩) M.length cM)) xb s t (.slice (some ⟨gM, 0, none⟩) M.length cM) ∧
    PinV e (w.heap.size + 1) (w7.setCell ⟨xb, 2, none⟩ (.slice (some ⟨gM, 0, none⟩) M.length cM)) (.slice (some ⟨gM, 0, none⟩) M.length cM) M ∧ (Value.slice (some ⟨gM, 0, none⟩) M.length cM).ownBlock ≠ some xb ∧ Cur (w7.setCell ⟨xb, 2, none⟩ (.slice (some ⟨gM, 0, none⟩) M.length cM)) g ∧ w.grownBy (w7.setCell ⟨xb, 2, none⟩ (.slice (some ⟨gM, 0, none⟩) M.length cM)) (some g) := by
  have hx7 := hx.below hb
  have hr7 := hr.below hb
  have hc7 := hc.below hb rfl
  have hg7 := grown_bel hg (hb.mono hg.size)
  have hxb := hx.2.2.2.2.2.2
  have hgM := (ho.blk gM rfl).1
  have hne : (Value.slice (some ⟨gM, 0, none⟩) M.length cM).ownBlock ≠ some xb := by
    intro e; simp [Value.ownBlock] at e; omega
  have hst := grown_set w7 xb 2 (.slice (some ⟨gM, 0, none⟩) M.length cM)
  have hB : Below w.heap.size w7 (w7.setCell ⟨xb, 2, none⟩ (.slice (some ⟨gM, 0, none⟩) M.length cM)) := grown_Below hst hg7.size (fun k hk => by injection hk with hk; omega)
  exact ⟨hr7.other (by omega), hx7.stored, Or.inr ⟨gM, cM, rfl, (ho.base_le (show w.heap.size + 1 ≤ w6.heap.size by omega)).keep hst (Or.inr hne)⟩, hne, hc7.belowG hgw hB, grown_bel hg7 hB⟩
theorem PinV.low {e B B' : Nat} {w : World} {v : Value} {S : List (Int × Int)} (h : PinV e B w v S) (hB : B' ≤ B) : PinV e B' w v S := by
  rcases h with h | ⟨go, co, h1, h2⟩
  · exact Or.inl h
  · exact Or.inr ⟨go, co, h1, h2.base_le hB⟩
/-- The result's box is filled. -/
theorem cyl_end {e g : Nat} {w wr : World} {v : Value} {S : List (Int × Int)} (u0 u1 u2 : Value) (hv : PinV e (w.heap.size + 1) wr v S) (hc : Cur wr g) (hg : w.grownBy wr (some g)) (hgw : g < w.heap.size) :
    PinV e w.heap.size (((wr.setCell ⟨w.heap.size, 0, none⟩ u0).setCell ⟨w.heap.size, 1, none⟩ u1).setCell ⟨w.heap.size, 2, none⟩ u2) v S ∧ Cur (((wr.setCell ⟨w.heap.size, 0, none⟩ u0).setCell ⟨w.heap.size, 1, none⟩ u1).setCell ⟨w.heap.size, 2, none⟩ u2) g ∧
    w.grownBy (((wr.setCell ⟨w.heap.size, 0, none⟩ u0).setCell ⟨w.heap.size, 1, none⟩ u1).setCell ⟨w.heap.size, 2, none⟩ u2) (some g) := by
  have h3 := grown_trans (grown_set wr w.heap.size 0 u0) (grown_trans (grown_set _ w.heap.size 1 u1) (grown_set _ w.heap.size 2 u2))
  have hB := grown_Below h3 hg.size (fun k hk => by injection hk with hk; omega)
  exact ⟨(hv.keptG h3 (by omega)).low (by omega), hc.belowG hgw hB, grown_bel hg hB⟩
attribute [local irreducible] tm pt lessB in
set_option maxHeartbeats 3200000 in
theorem cyl_any (g : Nat) (w : World) (hc : Cur w g) : Calls Try.prog 100 #[.pointer (some ⟨g, 0, none⟩)] w (CylR g 65 w) := by
  have hgw := hc.lt
  have hrb := BoxC.made w 56 0 0 (.slice none 0 0)
  have hbz : Below w.heap.size w (w.alloc (.cells #[.int .i64 0, .int .i64 0, .slice none 0 0] 56)) := (Below.refl _ _).alloc (Nat.le_refl _) _
  have hcz := hc.belowG hgw hbz
  have hgz : w.grownBy (w.alloc (.cells #[.int .i64 0, .int .i64 0, .slice none 0 0] 56)) (some g) := grown_bel (World.grownBy.refl _ _) hbz
  go_enter Try.func100, Try.ntmps100
  go_upto_region 1 with (fail)
  generalize hW : w.alloc _ = W at *
  clear hW hbz
  go_wp2_with fail
  refine (below_any g _ hcz 21 (by omega) (by omega)).mono ?_
  rintro e w1 ⟨ds, hs0, hs1, rfl, hc1, hg1⟩
  have hrb1 := hrb.keptG hg1 (by omega)
  have hgg1 := hgz.trans hg1
  go_wp2_with fail
  refine (below_any g _ hc1 8 (by omega) (by omega)).mono ?_
  rintro e w2 ⟨dt, ht0, ht1, rfl, hc2, hg2⟩
  have hrb2 := hrb1.keptG hg2 (by omega)
  have hgg2 := hgg1.trans hg2
  obtain ⟨s, hs⟩ : ∃ s, s = 4 + ds := ⟨_, rfl⟩
  obtain ⟨t, ht⟩ : ∃ t, t = 1 + dt := ⟨_, rfl⟩
  have hws : 4 + ds = s := hs.symm
  have hwt : 1 + dt = t := ht.symm
  have hsr : 4 ≤ s ∧ s ≤ 24 := by omega
  have htr : 1 ≤ t ∧ t ≤ 8 := by omega
  obtain ⟨hsr1, hsr2⟩ := hsr
  obtain ⟨htr1, htr2⟩ := htr
  clear hs ht hs0 hs1 ht0 ht1 hrb hrb1 hgz hg1 hgg1 hcz hc1 hg2 hc
  have hxb := BoxC.made w2 56 s t (.slice none 0 0)
  have hbx : Below w2.heap.size w2 (w2.alloc (.cells #[.int .i64 s, .int .i64 t, .slice none 0 0] 56)) := (Below.refl _ _).alloc (Nat.le_refl _) _
  have hrb3 := hrb2.below hbx
  have hc3 := hc2.below hbx rfl
  have hg3 : w.grownBy (w2.alloc (.cells #[.int .i64 s, .int .i64 t, .slice none 0 0] 56)) (some g) := grown_bel hgg2 (hbx.mono hgg2.size)
  have hxg : w.heap.size < w2.heap.size := hrb2.2.2.2.2.2.2
  clear hbx hrb2 hc2 hgg2
  go_upto_region 2 with (fail)
  generalize hV : w2.alloc _ = V at *
  generalize w2.heap.size = xb at *
  clear hV
  go_wp2_with fail
  refine (below_any g _ hc3 10 (by omega) (by omega)).mono ?_
  rintro e w4 ⟨N, hN0, hN1, rfl, hc4, hg4⟩
  have hx4 := hxb.keptG hg4 (by omega)
  have hr4 := hrb3.keptG hg4 (by omega)
  have hgg4 := hg3.trans hg4
  clear hxb hrb3 hc3 hg3 hg4
  obtain ⟨K0, hK0⟩ : ∃ K0 : Nat, N = (K0 : Int) := ⟨N.toNat, by omega⟩
  subst hK0
  go_wp2
  go_loopw [4] (fun i wr => ∃ (K : Nat) (v : Value) (S : List (Int × Int)), i = .int .i64 K ∧ S.length + K ≤ 9 ∧ BoxC wr w.heap.size 0 0 (.slice none 0 0) ∧ BoxC wr xb s t v ∧ PinV 65 (w.heap.size + 1) wr v S ∧ v.ownBlock ≠ some xb ∧ cylTo s t S S.length ∧ Cur wr g ∧ w.grownBy wr (some g)) (fun i _ => (intOf i).toNat)
  case atStart => exact ⟨K0, _, [], rfl, by simp; omega, hr4, hx4, Or.inl ⟨rfl, rfl⟩, by simp [Value.ownBlock], fun k h => by simp at h, hc4, hgg4⟩
  case round =>
    clear hx4 hr4 hc4 hgg4 hN0 hN1
    obtain ⟨K, v, S, rfl, hSK, hr, hx, hv, hvx, hS, hc, hg⟩ := hrel
    have HS := Lib.hid hS
    have HR := Lib.hid hr
    clear hS hr
    by_cases h0 : 0 < K
    · have h0i : (0 : Int) < (K : Int) := by omega
      obtain ⟨x0, x1, x2, x3, x4, x5, x6⟩ := id hx
      go_wp2_with fail
      go_region_with (first
        | (go_at_call 110; refine (put_v s t px py _ hv6 (by omega) hpx hpy HS.out).mono ?_; rintro e w7 ⟨M, gM, cM, bM, rfl, hoM, hM, hMl, hb7⟩; have HH7 := Lib.hid (pun_end (xb := xb) hoM hb7 hx6 hr6 hc6 hgg6 hgw hxg); obtain ⟨y0, y1, y2, y3, y4, y5, y6⟩ := hx6.below hb7)
        | (go_at_call 88; refine (below_any g _ hc5 s (by omega) (by omega)).mono ?_; rintro e w6 ⟨py, hy0, hy1, rfl, hc6, hg6⟩; have hpy : 0 ≤ py ∧ py ≤ s - 1 := ⟨hy0, by omega⟩; have hv6 := hv5.keptG hg6 (Nat.lt_succ_of_lt hgw); have hr6 := hr5.keptG hg6 (by omega); have hgg6 := hgg5.trans hg6; have hx6 := hx5.keptG hg6 (by omega); obtain ⟨z0, z1, z2, z3, z4, z5, z6⟩ := id hx6)
        | (go_at_call 88; refine (below_any g _ (show Cur (World.drew wr) g from hc) t (by omega) (by omega)).mono ?_; rintro e w5 ⟨px, hx0, hx1, rfl, hc5, hg5⟩; have hpx : 0 ≤ px ∧ px ≤ t - 1 := ⟨hx0, by omega⟩; have hv5 := (show PinV 65 (w.heap.size + 1) (World.drew wr) v S from hv).keptG hg5 (Nat.lt_succ_of_lt hgw); have hr5 := (show BoxC (World.drew wr) w.heap.size 0 0 _ from HR.out).keptG hg5 (by omega); have hgg5 := (show w.grownBy (World.drew wr) (some g) from grown_drewN hg 1).trans hg5; have hx5 := (show BoxC (World.drew wr) xb s t _ from hx).keptG hg5 (by omega); obtain ⟨u0, u1, u2, u3, u4, u5, u6⟩ := id hx5))
      all_goals
        obtain ⟨e1, e2, e3, e4, e5, e6⟩ := HH7.out
        go_wp2
        go_roundw
        case rel => exact ⟨K - 1, _, M, by go_num, by omega, e1, e2, e3, e4, hM, e5, e6⟩
        case measure => simp [intOf]; omega
    · obtain rfl : K = 0 := by omega
      obtain ⟨x0, x1, x2, x3, x4, x5, x6⟩ := id hx
      obtain ⟨r0, r1, r2, r3, r4, r5, r6⟩ := HR.out
      have hS9 : S.length ≤ 9 := by omega
      rcases hv with ⟨rfl, rfl⟩ | ⟨go, co, rfl, ho⟩
      · go_wp2
        have HF := cyl_end (.int .i64 s) (.int .i64 t) (.slice none 0 0) (PinV.low (B' := w.heap.size + 1) (Or.inl ⟨rfl, rfl⟩) (Nat.le_refl _) : PinV 65 (w.heap.size + 1) wr (.slice none 0 0) []) hc hg hgw
        exact bodyPost_ret (v := .agg #[.int .i64 s, .int .i64 t, .slice none 0 0]) (by simp [results, Try.results100, go_sem, r0, r1, r2]) rfl ⟨s, t, _, [], rfl, ⟨hsr1, hsr2⟩, ⟨htr1, htr2⟩, HS.out, by simp, HF.1, HF.2.1, HF.2.2⟩
      · go_wp2
        have HF := cyl_end (.int .i64 s) (.int .i64 t) (.slice (some ⟨go, 0, none⟩) S.length co) (Or.inr ⟨go, co, rfl, ho⟩ : PinV 65 (w.heap.size + 1) wr (.slice (some ⟨go, 0, none⟩) S.length co) S) hc hg hgw
        exact bodyPost_ret (v := .agg #[.int .i64 s, .int .i64 t, .slice (some ⟨go, 0, none⟩) S.length co]) (by simp [results, Try.results100, go_sem, r0, r1, r2]) rfl ⟨s, t, _, S, rfl, ⟨hsr1, hsr2⟩, ⟨htr1, htr2⟩, HS.out, hS9, HF.1, HF.2.1, HF.2.2⟩
end Go.Proofs.Ytkbceojeahninaa
