/- impl.Later: a tune moved later, by a function handed to changed. -/
import Derived.Test.YtajlopigpppeaaaLaterS
import Derived.Test.YtajlopigpppeaaaSorted
namespace Go.Proofs.Ytajlopigpppeaaa
open Go.ChangeShapes Go.WideShapes Go.ChangeAt Go.RowKit
set_option linter.unusedVariables false
theorem later1 (x y n : Int) (g : Nat) (w : World) (hg : w.cell? ⟨g, 0, none⟩ = some (.int .i64 n)) (hlt : g < w.heap.size) (hx : 0 ≤ x ∧ x ≤ 1000) (hn : -1000 ≤ n ∧ n ≤ 1000) :
    Calls Try.prog 88 #[.agg #[.int .i64 x, .int .i64 y], .pointer (some ⟨g, 0, none⟩)] w fun e w' => e = .returned (.agg #[.int .i64 (x + n), .int .i64 y]) ∧ Below w.heap.size w w' := by
  have hw1 : IntKind.i64.wrap (x + n) = x + n := IntWalk.i64_in _ (by omega)
  have hk : ∀ o1 o2 : Obj, ((w.alloc o1).alloc o2).cell? ⟨g, 0, none⟩ = some (.int .i64 n) := fun o1 o2 =>
    ((((Below.refl w.heap.size w).alloc (Nat.le_refl _) o1).alloc (by simp) o2).cell (p := ⟨g, 0, none⟩) hlt).trans hg
  go_enter Try.func88, Try.ntmps88
  go_upto_region 1 with fail
  obtain ⟨W, hW⟩ : ∃ W, W = (w.alloc (.cells #[.int .i64 x, .int .i64 y] 42)).alloc (.cells #[.int .i64 0, .int .i64 0] 42) := ⟨_, rfl⟩
  rw [← hW]
  have k1 : W.cell? ⟨w.heap.size, 0, none⟩ = some (.int .i64 x) := by rw [hW]; simp [go_sem]
  have k2 : W.cell? ⟨w.heap.size, 1, none⟩ = some (.int .i64 y) := by rw [hW]; simp [go_sem]
  have k3 : W.cell? ⟨w.heap.size + 1, 0, none⟩ = some (.int .i64 0) := by rw [hW]; simp [go_sem]
  have k4 : W.cell? ⟨w.heap.size + 1, 1, none⟩ = some (.int .i64 0) := by rw [hW]; simp [go_sem]
  have k5 : W.cell? ⟨g, 0, none⟩ = some (.int .i64 n) := by rw [hW]; exact hk _ _
  have f1 : W.frozen? ⟨w.heap.size + 1, 0, none⟩ = false := by rw [hW]; simp [go_sem]
  have f2 : W.frozen? ⟨w.heap.size + 1, 1, none⟩ = false := by rw [hW]; simp [go_sem]
  have hbW : Below w.heap.size w W := by rw [hW]; exact ((Below.refl w.heap.size w).alloc (Nat.le_refl _) _).alloc (by simp) _
  have hsW : W.heap.size = w.heap.size + 1 + 1 := by rw [hW]; simp
  clear hk hg hW
  go_wp2
  refine bodyPost_ret (v := .agg #[.int .i64 (x + n), .int .i64 y]) (by simp [results, Try.results88, go_sem, k3, k4]) rfl ⟨rfl, ?_⟩
  exact (hbW.setCell (by show w.heap.size ≤ w.heap.size + 1; omega) _).setCell (by show w.heap.size ≤ w.heap.size + 1; omega) _
attribute [local irreducible] tm pt tuneB latTo latL latR latB srt in
set_option maxHeartbeats 1600000 in
theorem changed_no (A : Option Addr) (c : Nat) (l : List (Int × Int)) (n : Int) (r : Bool) (f : Value) (w : World) (hrd : RdN w A l) (hl : l.length ≤ 1000000000) (hA : A = none → c = 0) (h : ¬ (tuneB l = true ∧ r = true)) :
    Calls Try.prog 87 #[.slice A l.length c, .bool r, f] w (RetNB 42 w.heap.size l false w) := by
  cases hB : tuneB l
  · have HB := Lib.hid hB
    clear hB h
    go_enter Try.func87, Try.ntmps87
    go_wp2_with fail
    refine (impl_TuneOk _ _ _ _ hrd (by omega)).mono ?_
    rintro e w1 ⟨rfl, hb1⟩
    rw [HB.out]
    go_wp2_with fail
    refine (copyNotes_any A c l w1 (hrd.below hb1 rfl) hl hA).mono ?_
    rintro e w2 ⟨A2, c2, rfl, ho, _, _, _, _, hb2⟩
    have HO := Lib.hid (ho.base_le hb1.size)
    have HB2 := Lib.hid (hb1.trans (hb2.mono hb1.size))
    clear ho hb2
    go_wp2
    go_ret2
    exact RetNB.mk HO.out HB2.out
  · have hr : r = false := by
      cases r
      · rfl
      · exact absurd ⟨hB, rfl⟩ h
    subst hr
    have HB := Lib.hid hB
    clear hB h
    go_enter Try.func87, Try.ntmps87
    go_wp2_with fail
    refine (impl_TuneOk _ _ _ _ hrd (by omega)).mono ?_
    rintro e w1 ⟨rfl, hb1⟩
    rw [HB.out]
    go_wp2_with fail
    refine (copyNotes_any A c l w1 (hrd.below hb1 rfl) hl hA).mono ?_
    rintro e w2 ⟨A2, c2, rfl, ho, _, _, _, _, hb2⟩
    have HO := Lib.hid (ho.base_le hb1.size)
    have HB2 := Lib.hid (hb1.trans (hb2.mono hb1.size))
    clear ho hb2
    go_wp2
    go_ret2
    exact RetNB.mk HO.out HB2.out
attribute [local irreducible] tm pt tuneB latTo latL latR latB srt in
set_option maxHeartbeats 1600000 in
theorem changed_yes (A : Option Addr) (c : Nat) (l : List (Int × Int)) (n : Int) (g : Nat) (w : World) (hrd : RdN w A l) (hl : l.length ≤ 1000000000) (hA : A = none → c = 0) (hB : tuneB l = true) (h1 : -1000 ≤ n ∧ n ≤ 1000) (hg : w.cell? ⟨g, 0, none⟩ = some (.int .i64 n)) (hlt0 : g < w.heap.size) :
    Calls Try.prog 87 #[.slice A l.length c, .bool true, .func (.func 88) #[] #[.pointer (some ⟨g, 0, none⟩)]] w (RetNB 42 w.heap.size (latR l n) (latB l n) w) := by
  have hn1 := h1.1
  have hn2 := h1.2
  have HB := Lib.hid hB
  have hl40 := tune_len5 hB
  have HT := Lib.hid (fun (k : Nat) (hk : k < l.length) => tm_rng hB hk)
  have HY := Lib.hid (fun (hh : tuneB (latL l n) = true) => lat_yes (l := l) (b := n) ⟨hB, h1, hh⟩)
  have HZ := Lib.hid (fun (hh : tuneB (latL l n) = false) => lat_no (l := l) (b := n) (fun h => by rw [hh] at h; exact absurd h.2.2 (by simp)))
  have HZ0 := Lib.hid (show latTo l n 0 = [] by unfold latTo; rfl)
  have HAL := Lib.hid (latTo_len l n)
  have HSS := Lib.hid (latL_srt n hB)
  have HLL := Lib.hid (show latTo l n l.length = latL l n by unfold latL; rfl)
  have HLN := Lib.hid (latL_len l n)
  clear hB
  go_enter Try.func87, Try.ntmps87
  go_wp2_with fail
  refine (impl_TuneOk _ _ _ _ hrd (by omega)).mono ?_
  rintro e w1 ⟨rfl, hb1⟩
  rw [HB.out]
  have ho1 := (OwnN.lit0 w1 42).base_le hb1.size
  have hb01 := hb1.alloc hb1.size (.cells #[] 42)
  go_wp2
  go_loopw [8, 23] (fun v i wr => ∃ (k : Nat), k ≤ l.length ∧ i = .int .i64 k ∧ OwnN 42 w.heap.size wr v (latTo l n k) ∧ Below w.heap.size w wr) (fun _ i _ => l.length - (intOf i).toNat)
  case atStart => exact ⟨0, by omega, rfl, by rw [HZ0.out]; exact ho1, hb01⟩
  case round =>
    obtain ⟨k, hk, rfl, ho, hb⟩ := hrel
    by_cases hlt : k < l.length
    · obtain ⟨b, o, rfl, lb, hc⟩ := hrd (by omega)
      have k1 := (hb.cell (p := ⟨b, o + k * 2, none⟩) lb).trans (hc k hlt).1
      have k2 := (hb.cell (p := ⟨b, o + k * 2 + 1, none⟩) lb).trans (hc k hlt).2
      have kg := (hb.cell (p := ⟨g, 0, none⟩) hlt0).trans hg
      have h0a : (0 : Int) ≤ (k : Int) := by omega
      have h0b : (k : Int) < (l.length : Int) := by omega
      have hlen : (latTo l n k).length ≤ 40 := by rw [HAL.out]; omega
      have HN := Lib.hid (latTo_succ l n k)
      have HTK := Lib.hid (HT.out k hlt)
      have hbs := hb.size
      clear hc
      go_upto_region 7 with fail
      obtain ⟨wb, hwb⟩ : ∃ W, W = wr.alloc (.cells #[.int .i64 (tm l k), .int .i64 (pt l k)] 42) := ⟨_, rfl⟩
      rw [← hwb]
      have x1 : wb.cell? ⟨wr.heap.size, 0, none⟩ = some (.int .i64 (tm l k)) := by rw [hwb]; simp [go_sem]
      have x2 : wb.cell? ⟨wr.heap.size, 1, none⟩ = some (.int .i64 (pt l k)) := by rw [hwb]; simp [go_sem]
      have hbw : Below wr.heap.size wr wb := by rw [hwb]; exact (Below.refl _ _).alloc (Nat.le_refl _) _
      have xg := (hbw.cell (p := ⟨g, 0, none⟩) (by show g < wr.heap.size; omega)).trans kg
      have hgb : g < wb.heap.size := by have := hbw.size; omega
      have hbb : Below w.heap.size w wb := hb.trans (hbw.mono hbs)
      have hob := ho.below hbw rfl
      clear hwb
      go_wp2_with (first | (go_at_call 88; refine (later1 _ _ n g _ xg hgb HTK.out h1).mono ?_; rintro e w2 ⟨rfl, hb2⟩; have hob2 := hob.below hb2 rfl; have hbb2 := hbb.trans (hb2.mono hbb.size)) | (at_builtin; refine app_pair rfl _ _ 26 rfl 42 Try.underlying26 (by kernel_rfl) w.heap.size _ (latTo l n k) (tm l k + n) (pt l k) hob2 rfl rfl (by omega) hbb2.size ?_; intro v' w3 hown3 hb3))
      go_roundw
      case rel => exact ⟨k + 1, by omega, by go_num, by rw [HN.out]; exact hown3, hbb2.trans hb3⟩
      case measure => simp [intOf]; omega
    · obtain rfl : k = l.length := by omega
      rw [HLL.out] at ho
      obtain ⟨A4, c4, he4, ho4, h41, h42, h43, h44, h45⟩ := RetN.mk ho hb
      injection he4 with he4
      subst he4
      go_wp2_with fail
      refine (sorted_any _ _ _ _ h44 (by rw [HLN.out]; omega) h43).mono ?_
      rintro e w5 ⟨A5, c5, rfl, ho5, _, _, _, hr5, hb5⟩
      rw [HSS.out] at ho5 hr5 ⊢
      have HO5 := ho5.base_le hb.size
      have hB5 := hb.trans (hb5.mono hb.size)
      clear ho5
      go_wp2_with fail
      refine (impl_TuneOk _ _ _ _ hr5 (by rw [HLN.out]; omega)).mono ?_
      rintro e w6 ⟨rfl, hb6⟩
      have hB6 := hB5.trans (hb6.mono hB5.size)
      have ho6 := HO5.below hb6 rfl
      cases hh : tuneB (latL l n)
      · have HYY := Lib.hid (HZ.out hh)
        clear hh
        go_wp2_with fail
        refine (copyNotes_any A c l w6 (hrd.below hB6 rfl) hl hA).mono ?_
        rintro e w2 ⟨A2, c2, rfl, ho2, _, _, _, _, hb2⟩
        have HO := Lib.hid (ho2.base_le hB6.size)
        have HB2 := Lib.hid (hB6.trans (hb2.mono hB6.size))
        clear ho2 hb2
        go_wp2
        go_ret2
        rw [HYY.out.1, HYY.out.2]
        exact RetNB.mk HO.out HB2.out
      · have HYY := Lib.hid (HY.out hh)
        clear hh
        go_wp2
        go_ret2
        rw [HYY.out.1, HYY.out.2]
        exact RetNB.mk ho6 hB6
attribute [local irreducible] tm pt tuneB latTo latL latR latB srt in
set_option maxHeartbeats 1600000 in
theorem impl_Later (A : Option Addr) (c : Nat) (l : List (Int × Int)) (n : Int) (w : World) (hrd : RdN w A l) (hl : l.length ≤ 1000000000) (hA : A = none → c = 0) :
    Calls Try.prog 62 #[.slice A l.length c, .int .i64 n] w (RetNB 42 w.heap.size (latR l n) (latB l n) w) := by
  by_cases h1 : -1000 ≤ n ∧ n ≤ 1000
  · cases hB : tuneB l
    · have HX := Lib.hid (lat_no (l := l) (b := n) (by rw [hB]; simp))
      have HN := Lib.hid hB
      clear hB
      go_enter Try.func62, Try.ntmps62
      go_upto_region 1 with fail
      obtain ⟨wb, hwb⟩ : ∃ W, W = w.alloc (.cells #[.int .i64 n] 3) := ⟨_, rfl⟩
      rw [← hwb]
      have x1 : wb.cell? ⟨w.heap.size, 0, none⟩ = some (.int .i64 n) := by rw [hwb]; simp [go_sem]
      have hbw : Below w.heap.size w wb := by rw [hwb]; exact (Below.refl _ _).alloc (Nat.le_refl _) _
      have hgb : w.heap.size < wb.heap.size := by rw [hwb]; simp
      have hrdb := hrd.below hbw rfl
      clear hwb
      go_wp2_with (go_at_call 61; refine (wi_yes _ _ _ _ (by assumption)).mono ?_; rintro e wz ⟨rfl, rfl⟩; go_wp2_with fail; refine (changed_no A c l n true _ _ hrdb hl hA (fun h => by rw [HN.out] at h; exact absurd h.1 (by simp))).mono ?_; rintro e w2 ⟨A2, c2, rfl, ho, _, _, _, _, hb2⟩; go_wp2)
      go_ret2
      rw [HX.out.1, HX.out.2]
      exact RetNB.mk (ho.base_le hbw.size) (hbw.trans (hb2.mono hbw.size))
    · have HB := Lib.hid hB
      clear hB
      go_enter Try.func62, Try.ntmps62
      go_upto_region 1 with fail
      obtain ⟨wb, hwb⟩ : ∃ W, W = w.alloc (.cells #[.int .i64 n] 3) := ⟨_, rfl⟩
      rw [← hwb]
      have x1 : wb.cell? ⟨w.heap.size, 0, none⟩ = some (.int .i64 n) := by rw [hwb]; simp [go_sem]
      have hbw : Below w.heap.size w wb := by rw [hwb]; exact (Below.refl _ _).alloc (Nat.le_refl _) _
      have hgb : w.heap.size < wb.heap.size := by rw [hwb]; simp
      have hrdb := hrd.below hbw rfl
      clear hwb
      go_wp2_with (first | (go_at_call 61; refine (wi_yes _ _ _ _ (by assumption)).mono ?_; rintro e wz ⟨rfl, rfl⟩) | (go_at_call 87; refine (changed_yes _ _ _ n _ _ hrdb hl hA HB.out h1 x1 hgb).mono ?_; rintro e w2 ⟨A2, c2, rfl, ho, _, _, _, _, hb2⟩))
      go_ret2
      exact RetNB.mk (ho.base_le hbw.size) (hbw.trans (hb2.mono hbw.size))
  · have HX := Lib.hid (lat_no (l := l) (b := n) (fun h => h1 h.2.1))
    have HN := Lib.hid (show ¬ (tuneB l = true ∧ false = true) by simp)
    go_enter Try.func62, Try.ntmps62
    go_upto_region 1 with fail
    obtain ⟨wb, hwb⟩ : ∃ W, W = w.alloc (.cells #[.int .i64 n] 3) := ⟨_, rfl⟩
    rw [← hwb]
    have x1 : wb.cell? ⟨w.heap.size, 0, none⟩ = some (.int .i64 n) := by rw [hwb]; simp [go_sem]
    have hbw : Below w.heap.size w wb := by rw [hwb]; exact (Below.refl _ _).alloc (Nat.le_refl _) _
    have hgb : w.heap.size < wb.heap.size := by rw [hwb]; simp
    have hrdb := hrd.below hbw rfl
    clear hwb
    go_wp2_with (first | (go_at_call 61; refine (wi_no _ _ _ _ (by assumption)).mono ?_; rintro e wz ⟨rfl, rfl⟩) | (go_at_call 87; refine (changed_no _ _ _ n _ _ _ hrdb hl hA HN.out).mono ?_; rintro e w2 ⟨A2, c2, rfl, ho, _, _, _, _, hb2⟩))
    go_ret2
    rw [HX.out.1, HX.out.2]
    exact RetNB.mk (ho.base_le hbw.size) (hbw.trans (hb2.mono hbw.size))
end Go.Proofs.Ytajlopigpppeaaa
