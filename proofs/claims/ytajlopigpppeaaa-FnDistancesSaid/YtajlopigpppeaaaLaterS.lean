/- spec.Later: a tune moved later. -/
import Derived.Test.YtajlopigpppeaaaLat
import Derived.Test.YtajlopigpppeaaaSpecSort
namespace Go.Proofs.Ytajlopigpppeaaa
open Go.ChangeShapes Go.WideShapes Go.ChangeAt Go.RowKit
set_option linter.unusedVariables false
theorem heldW_keep {w v u : World} {b o N : Nat} {u1 u2 : Value} (l1 : b < N)
    (h : v.cell? ⟨b, o, none⟩ = some u1 ∧ v.cell? ⟨b, o + 1, none⟩ = some u2 ∧ Below N w v) (hb : Below N v u) :
    u.cell? ⟨b, o, none⟩ = some u1 ∧ u.cell? ⟨b, o + 1, none⟩ = some u2 ∧ Below N w u := by
  obtain ⟨h1, h2, h5⟩ := h
  exact ⟨(hb.cell (p := ⟨b, o, none⟩) l1).trans h1, (hb.cell (p := ⟨b, o + 1, none⟩) l1).trans h2, h5.trans hb⟩
theorem heldW_bel {w v : World} {b o N : Nat} {u1 u2 : Value} (h : v.cell? ⟨b, o, none⟩ = some u1 ∧ v.cell? ⟨b, o + 1, none⟩ = some u2 ∧ Below N w v) : Below N w v := h.2.2
theorem len_1 {S : List (Int × Int)} {x : Int × Int} (h : S.length ≤ 40) : S.length + [x].length ≤ 1000000000 := by simp; omega
theorem tune_len5 {l : List (Int × Int)} (h : tuneB l = true) : l.length ≤ 40 := (of_decide_eq_true h : tuneP l).2
attribute [local irreducible] tm pt tuneB latTo latL latR latB in
set_option maxHeartbeats 1600000 in
theorem spec_move (A : Option Addr) (c : Nat) (l : List (Int × Int)) (n : Int) (w : World) (hrd : RdN w A l) (hl : l.length ≤ 1000000000) (hA : A = none → c = 0) (h1 : -1000 ≤ n ∧ n ≤ 1000) :
    Calls Try.prog 86 #[.slice A l.length c, .int .i64 1, .int .i64 n, .int .i64 0] w (RetNB 42 w.heap.size (latR l n) (latB l n) w) := by
  have hn1 := h1.1
  have hn2 := h1.2
  cases hB : tuneB l
  · have HB := Lib.hid hB
    have HX := Lib.hid (lat_no (l := l) (b := n) (by rw [hB]; simp))
    clear hB
    go_enter Try.func86, Try.ntmps86
    go_wp2_with fail
    refine (spec_TuneOk _ _ _ _ hrd (by omega)).mono ?_
    rintro e w1 ⟨rfl, hb1⟩
    rw [HB.out]
    go_wp2_with fail
    refine (l02Copy_any A c l w1 (hrd.below hb1 rfl) hl hA).mono ?_
    rintro e w2 ⟨A2, c2, rfl, ho, _, _, _, _, hb2⟩
    have HO := Lib.hid (ho.base_le hb1.size)
    have HB2 := Lib.hid (hb1.trans (hb2.mono hb1.size))
    clear ho hb2
    go_wp2
    go_ret2
    rw [HX.out.1, HX.out.2]
    exact RetNB.mk HO.out HB2.out
  · have HB := Lib.hid hB
    have hl40 := tune_len5 hB
    have HT := Lib.hid (fun (k : Nat) (hk : k < l.length) => tm_rng hB hk)
    have HP := Lib.hid (fun (k : Nat) (hk : k < l.length) => pt_rng hB hk)
    have HY := Lib.hid (fun (hh : tuneB (latL l n) = true) => lat_yes (l := l) (b := n) ⟨hB, h1, hh⟩)
    have HZ := Lib.hid (fun (hh : tuneB (latL l n) = false) => lat_no (l := l) (b := n) (fun h => by rw [hh] at h; exact absurd h.2.2 (by simp)))
    have HZ0 := Lib.hid (show latTo l n 0 = [] by unfold latTo; rfl)
    have HAL := Lib.hid (latTo_len l n)
    have HLL := Lib.hid (show latTo l n l.length = latL l n by unfold latL; rfl)
    have HLN := Lib.hid (latL_len l n)
    clear hB h1
    go_enter Try.func86, Try.ntmps86
    go_wp2_with fail
    refine (spec_TuneOk _ _ _ _ hrd (by omega)).mono ?_
    rintro e w1 ⟨rfl, hb1⟩
    rw [HB.out]
    have ho1 := (OwnN.lit0 w1 42).base_le hb1.size
    have hb01 := hb1.alloc hb1.size (.cells #[] 42)
    go_wp2
    go_loopw [10, 11] (fun v i wr => ∃ (k go co : Nat), k ≤ l.length ∧ v = .slice (some ⟨go, 0, none⟩) (latTo l n k).length co ∧ i = .int .i64 k ∧ OwnN 42 w.heap.size wr (.slice (some ⟨go, 0, none⟩) (latTo l n k).length co) (latTo l n k) ∧ Below w.heap.size w wr) (fun _ i _ => l.length - (intOf i).toNat)
    case atStart => exact ⟨0, w1.heap.size, 0, by omega, by rw [HZ0.out]; rfl, rfl, by rw [HZ0.out]; exact ho1, hb01⟩
    case round =>
      obtain ⟨k, go, co, hk, rfl, rfl, ho, hb⟩ := hrel
      by_cases hlt : k < l.length
      · obtain ⟨b, o, rfl, lb, hc⟩ := hrd (by omega)
        have k1 := (hb.cell (p := ⟨b, o + k * 2, none⟩) lb).trans (hc k hlt).1
        have k2 := (hb.cell (p := ⟨b, o + k * 2 + 1, none⟩) lb).trans (hc k hlt).2
        have h0a : (0 : Int) ≤ (k : Int) := by omega
        have h0b : (k : Int) < (l.length : Int) := by omega
        have ht1 := (HT.out k hlt).1
        have ht2 := (HT.out k hlt).2
        have hp1 := (HP.out k hlt).1
        have hp2 := (HP.out k hlt).2
        have hlen : (latTo l n k).length ≤ 40 := by rw [HAL.out]; omega
        have HN := Lib.hid (latTo_succ l n k)
        have hw1 : IntKind.i64.wrap (tm l k + n) = tm l k + n := IntWalk.i64_in _ (by omega)
        have hw0 : IntKind.i64.wrap (tm l k) = tm l k := IntWalk.i64_in _ (by omega)
        have hwp : IntKind.i64.wrap (pt l k) = pt l k := IntWalk.i64_in _ (by omega)
        clear hc
        have hbs := hb.size
        go_wp2_with fail
        go_region_held3 (fun w' => w'.cell? ⟨b, o + k * 2, none⟩ = some (.int .i64 (tm l k)) ∧ w'.cell? ⟨b, o + k * 2 + 1, none⟩ = some (.int .i64 (pt l k)) ∧ Below w.heap.size wr w')
          (first | exact ⟨k1, k2, (Below.refl _ _).drew⟩ | exact ⟨k1, k2, Below.refl _ _⟩ | assumption | exact heldW_keep lb (by assumption) ((Below.refl _ _).alloc (Nat.le_trans hbs (heldW_bel (by assumption)).size) _) | exact heldW_keep lb (by assumption) ((Below.refl _ _).alloc (Nat.le_trans hbs (heldW_bel (by assumption)).size) _).drew | exact heldW_keep lb (by assumption) hbn3)
          ((refine step_app_pairs rfl (.tmp 24) (.tmp 42) _ rfl 42 Try.underlying26 (by kernel_rfl) w.heap.size go co _ 1 (latTo l n k) [(tm l k + n, pt l k)] _ 1 rfl rfl rfl rfl rfl (ho.alloc _) (rd_one _ _ _ _) (len_1 hlen) (Nat.le_trans hbs (heldW_bel (by assumption)).size) ?_; intro g3 c3 w3 hown3 hbn3 hgr3))
        have hB3 : Below w.heap.size w w3 := hb.trans (heldW_bel (by assumption))
        go_wp2
        go_roundw
        case rel => exact ⟨k + 1, g3, c3, by omega, by rw [HN.out]; simp, by go_num, by rw [HN.out]; exact hown3, hB3⟩
        case measure => simp [intOf]; omega
      · obtain rfl : k = l.length := by omega
        rw [HLL.out] at ho ⊢
        go_wp2_with fail
        refine (spec_TuneOk _ _ _ _ ho.rdA (by rw [HLN.out]; omega)).mono ?_
        rintro e w5 ⟨rfl, hb5⟩
        have hB5 := hb.trans (hb5.mono hb.size)
        have ho5 := ho.below hb5 rfl
        cases hh : tuneB (latL l n)
        · have HYY := Lib.hid (HZ.out hh)
          clear hh
          go_wp2_with fail
          refine (l02Copy_any A c l w5 (hrd.below hB5 rfl) hl hA).mono ?_
          rintro e w2 ⟨A2, c2, rfl, ho2, _, _, _, _, hb2⟩
          have HO := Lib.hid (ho2.base_le hB5.size)
          have HB2 := Lib.hid (hB5.trans (hb2.mono hB5.size))
          clear ho2 hb2
          go_wp2
          go_ret2
          rw [HYY.out.1, HYY.out.2]
          exact RetNB.mk HO.out HB2.out
        · have HYY := Lib.hid (HY.out hh)
          clear hh
          go_wp2
          go_ret2
          rw [HYY.out.1, HYY.out.2]
          exact RetNB.mk ho5 hB5
attribute [local irreducible] tm pt tuneB latTo latL latR latB in
theorem spec_Later (A : Option Addr) (c : Nat) (l : List (Int × Int)) (n : Int) (w : World) (hrd : RdN w A l) (hl : l.length ≤ 1000000000) (hA : A = none → c = 0) :
    Calls Try.prog 59 #[.slice A l.length c, .int .i64 n] w (RetNB 42 w.heap.size (latR l n) (latB l n) w) := by
  by_cases h1 : -1000 ≤ n ∧ n ≤ 1000
  · go_enter Try.func59, Try.ntmps59
    go_wp2_with (first | (go_at_call 58; refine (in_yes _ _ _ _ (by assumption)).mono ?_; rintro e wz ⟨rfl, rfl⟩) | (go_at_call 86; refine (spec_move _ _ _ _ _ hrd hl hA h1).mono ?_; rintro e w2 ⟨A2, c2, rfl, ho, _, _, _, _, hb2⟩))
    go_ret2
    exact RetNB.mk ho hb2
  · have HX := Lib.hid (lat_no (l := l) (b := n) (fun h => h1 h.2.1))
    go_enter Try.func59, Try.ntmps59
    go_wp2_with (first | (go_at_call 58; refine (in_no _ _ _ _ (by assumption)).mono ?_; rintro e wz ⟨rfl, rfl⟩) | (go_at_call 85; refine (l02Copy_any _ _ _ _ hrd hl hA).mono ?_; rintro e w2 ⟨A2, c2, rfl, ho, _, _, _, _, hb2⟩))
    go_ret2
    rw [HX.out.1, HX.out.2]
    exact RetNB.mk ho hb2
end Go.Proofs.Ytajlopigpppeaaa
