/- The draw of a tune: a valid tune of at most 11 notes, times 0..15, pitches 10..19. -/
import Derived.Test.YtkbceojeahninaaBase
import Derived.Test.YtkbceojeahninaaCur
import Derived.Test.YtkbceojeahninaaTune
import Derived.Test.YtkbceojeahninaaSrt
import Derived.Test.YtkbceojeahninaaSpecSort
namespace Go.Proofs.Ytkbceojeahninaa
open Go.ChangeShapes Go.WideShapes Go.ChangeAt Go.RowKit
set_option linter.unusedVariables false
/-- What a drawn note is. -/
def drN (p : Int × Int) : Prop := 0 ≤ p.1 ∧ p.1 ≤ 15 ∧ 10 ≤ p.2 ∧ p.2 ≤ 19
def drL (l : List (Int × Int)) : Prop := ∀ x ∈ l, drN x
/-- What a drawn tune is. -/
def drT (l : List (Int × Int)) : Prop := tuneB l = true ∧ l.length ≤ 11 ∧ drL l
theorem srtTo_len2 (l : List (Int × Int)) : (srt l).length ≤ l.length := srtTo_len l l.length
theorem drT_srt {l : List (Int × Int)} (h : drL l) (hl : l.length ≤ 11) : drT (srt40 l) := by
  have e : srt40 l = srt l := (srt40_yes (by omega)).symm
  obtain ⟨hp, hm⟩ := srt_srt l
  have hlen := srtTo_len2 l
  rw [e]
  have hd : drL (srt l) := fun x hx => h x ((hm x).1 hx)
  refine ⟨?_, by omega, hd⟩
  rw [tuneB_all]
  · exact decide_eq_true (by omega)
  · intro k hk
    have e1 := note_get hk
    have h1 := hd _ (List.getElem_mem hk)
    rw [← e1] at h1
    obtain ⟨a1, a2, a3, a4⟩ := h1
    simp only at a1 a2 a3 a4
    refine ⟨⟨a1, by omega⟩, ⟨by omega, by omega⟩, fun h0 => ?_⟩
    have hk1 : k - 1 < (srt l).length := by omega
    have h2 := List.pairwise_iff_getElem.1 hp (k - 1) k hk1 hk (by omega)
    rw [← note_get hk1, ← note_get hk] at h2
    exact h2
theorem grown_bel {w a b : World} {g : Nat} (h : w.grownBy a (some g)) (hb : Below w.heap.size a b) : w.grownBy b (some g) :=
  ⟨hb.os.trans h.os, hb.tape.trans h.tape, hb.output.trans h.output, Nat.le_trans h.size hb.size, fun i hi hne => (hb.block i hi).trans (h.block i hi hne)⟩
theorem Cur.belowG {B : Nat} {w w' : World} {g : Nat} (h : Cur w g) (hg : g < B) (hb : Below B w w') : Cur w' g := by
  obtain ⟨A, n, c, i, h, k0, k1, k2, f1, f2, hi, hn, hr, hl⟩ := h
  refine ⟨A, n, c, i, h, (hb.cell hg).trans k0, (hb.cell hg).trans k1, (hb.cell hg).trans k2, (hb.frozen hg).trans f1, (hb.frozen hg).trans f2, hi, hn, ?_, Nat.lt_of_lt_of_le hl hb.size⟩
  intro h0
  obtain ⟨b, o, rfl, hbg, hc⟩ := hr h0
  refine ⟨b, o, rfl, hbg, fun j hj => ?_⟩
  obtain ⟨u, hu, r⟩ := hc j hj
  exact ⟨u, (hb.cell (p := ⟨b, o + j, none⟩) (Nat.lt_trans hbg hg)).trans hu, r⟩
theorem OwnN.keptG {e B g : Nat} {w w' : World} {v : Value} {l : List (Int × Int)} (h : OwnN e B w v l) (hg : w.grownBy w' (some g)) (hgB : g < B) : OwnN e B w' v l := by
  refine World.ownsRow.kept h hg ?_
  rcases h.2 with ⟨rfl, _⟩ | ⟨k, cap, cur, rfl, hk, _⟩
  · exact .inl rfl
  · exact .inr (by simp [Value.ownBlock]; omega)
def TuneR (g : Nat) (w : World) (e : Ending) (w' : World) : Prop :=
  ∃ (l : List (Int × Int)) (A : Option Addr) (c : Nat), drT l ∧ e = .returned (.slice A l.length c) ∧ OwnN 37 w.heap.size w' (.slice A l.length c) l ∧ RdN w' A l ∧ Cur w' g ∧ w.grownBy w' (some g)
theorem TuneR.mk {g : Nat} {w wr : World} {L : List (Int × Int)} {e : Ending} {w' : World} (h : drL L) (hl : L.length ≤ 11) (hg : w.grownBy wr (some g)) (hgw : g < w.heap.size) (hc : Cur wr g) (hr : RetN 37 wr.heap.size (srt40 L) wr e w') : TuneR g w e w' := by
  obtain ⟨A, c, rfl, ho, _, _, _, hrd, hb⟩ := hr
  exact ⟨_, A, c, drT_srt h hl, rfl, OwnN.base_le ho hg.size, hrd, hc.belowG (Nat.lt_of_lt_of_le hgw hg.size) hb, grown_bel hg (hb.mono hg.size)⟩
attribute [local irreducible] tm pt srt srt40 tuneB in
set_option maxHeartbeats 1600000 in
theorem tune_any (g : Nat) (w : World) (hc : Cur w g) : Calls Try.prog 56 #[.pointer (some ⟨g, 0, none⟩)] w (TuneR g w) := by
  have hgw := hc.lt
  have hz := OwnN.lit0 w 37
  have hbz : Below w.heap.size w (w.alloc (.cells #[] 37)) := (Below.refl _ _).alloc (Nat.le_refl _) _
  have hcz := hc.belowG hgw hbz
  have hgz : w.grownBy (w.alloc (.cells #[] 37)) (some g) := grown_bel (World.grownBy.refl _ _) hbz
  go_enter Try.func56, Try.ntmps56
  go_upto_region 2 with (fail)
  generalize hW : w.alloc _ = W at *
  clear hW
  go_wp2_with (go_at_call 88; refine (below_any g _ (by assumption) 12 (by omega) (by omega)).mono ?_; rintro e w1 ⟨N, hN0, hN1, rfl, hc1, hg1⟩)
  have ho1 := hz.keptG hg1 hgw
  have hgg1 := hgz.trans hg1
  clear hz hcz hgz hbz hc hg1
  go_loopw [3, 5] (fun v i wr => ∃ (L : List (Int × Int)) (K : Nat), (K : Int) ≤ N ∧ L.length = K ∧ drL L ∧ i = .int .i64 K ∧ OwnN 37 w.heap.size wr v L ∧ Cur wr g ∧ w.grownBy wr (some g)) (fun _ i _ => 11 - (intOf i).toNat)
  case atStart => exact ⟨[], 0, by omega, rfl, fun x hx => by simp at hx, rfl, ho1, hc1, hgg1⟩
  case round =>
    clear ho1 hc1 hgg1
    obtain ⟨L, K, hK, hL, hD, rfl, ho, hc, hg⟩ := hrel
    have HL := Lib.hid hL
    clear hL
    by_cases hlt : (K : Int) < N
    · go_wp2_with fail
      refine (below_any g _ hc 16 (by omega) (by omega)).mono ?_
      rintro e w2 ⟨x, hx0, hx1, rfl, hc2, hg2⟩
      go_wp2_with fail
      refine (below_any g _ hc2 10 (by omega) (by omega)).mono ?_
      rintro e w3 ⟨y, hy0, hy1, rfl, hc3, hg3⟩
      have hwy : wrap64 (10 + y) = 10 + y := by unfold wrap64; omega
      have ho3 := (ho.keptG hg2 hgw).keptG hg3 hgw
      have hgg := (hg.trans hg2).trans hg3
      have hsz := hgg.size
      have hl3 : L.length ≤ 1000000000 := by rw [HL.out]; omega
      clear hg2 hg3 ho hc hc2
      go_wp2_with (at_builtin; refine app_pair rfl _ _ 32 rfl 37 Try.underlying32 (by kernel_rfl) w.heap.size _ L x (10 + y) ho3 rfl rfl hl3 hsz ?_; intro v' w4 hown1 hb4)
      refine ⟨⟨L ++ [(x, 10 + y)], K + 1, by omega, by rw [List.length_append, HL.out]; rfl, ?_, by go_num, hown1, hc3.belowG hgw hb4, grown_bel hgg hb4⟩, by simp [intOf]; omega⟩
      intro z hz
      rcases List.mem_append.1 hz with hz | hz
      · exact hD z hz
      · rw [List.mem_singleton.1 hz]
        exact ⟨by omega, by omega, by omega, by omega⟩
    · have hlt' : N ≤ (K : Int) := by omega
      obtain ⟨A, c, rfl, hlc, hcm, hrd⟩ := ho.rd
      have hl11 : L.length ≤ 11 := by rw [HL.out]; omega
      go_wp2_with (go_at_call 65; refine (spec_SortNotes _ _ _ _ hrd (by omega)).mono ?_; rintro e w2 ⟨A2, c2, rfl, hq⟩)
      exact bodyPost_ret (v := .slice A2 (srt40 L).length c2) (by simp [results, Try.results56, go_sem]) rfl (TuneR.mk hD hl11 hg hgw hc ⟨A2, c2, rfl, hq⟩)
/-- What a call that draws a list leaves. -/
def DrR (T : List (Int × Int) → Prop) (w : World) (e : Ending) (w' : World) : Prop :=
  ∃ l : List (Int × Int), T l ∧ RetN 37 w.heap.size l w e w'
theorem bel_new {w a b : World} {g : Nat} (h : Below w.heap.size w a) (hg : w.heap.size ≤ g) (hb : a.grownBy b (some g)) : Below w.heap.size w b :=
  ⟨hb.os.trans h.os, hb.tape.trans h.tape, hb.output.trans h.output, Nat.le_trans h.size hb.size, fun i hi => (hb.block i (Nat.lt_of_lt_of_le hi h.size) (by simp; omega)).trans (h.block i hi)⟩
theorem draw_tune (w : World) (A : Option Addr) (n c : Nat) (hn : n ≤ 1048576) (hr : RdU w A n w.heap.size) : Calls Try.prog 15 #[.slice A n c] w (DrR drT w) := by
  go_enter Try.func15, Try.ntmps15
  go_wp2_with fail
  refine (new_any w A n c hn hr).mono ?_
  rintro e w1 ⟨g, hg, rfl, hc, hb⟩
  go_wp2_with fail
  refine (tune_any g w1 hc).mono ?_
  rintro e w2 ⟨l, A2, c2, hT, rfl, ho, hrd, hc2, hg2⟩
  go_wp2
  exact bodyPost_ret (v := .slice A2 l.length c2) (by simp [results, Try.results15, go_sem]) rfl ⟨l, hT, RetN.mk (OwnN.base_le ho hb.size) (bel_new hb hg hg2)⟩
end Go.Proofs.Ytkbceojeahninaa
