/- spec.Higher: the tune moved in pitch, where it stays one. (Made from XLat and XLaterS.) -/
import Derived.Test.YtjfaodbjmanfnaaLaterS
import Derived.Test.YtjfaodbjmanfnaaDTune
namespace Go.Proofs.Ytjfaodbjmanfnaa
open Go.ChangeShapes Go.WideShapes Go.ChangeAt Go.RowKit
set_option linter.unusedVariables false
def higTo (l : List (Int × Int)) (b : Int) : Nat → List (Int × Int)
  | 0 => []
  | k + 1 => higTo l b k ++ [(tm l k, pt l k + b)]
theorem higTo_len (l : List (Int × Int)) (b : Int) : ∀ k, (higTo l b k).length = k
  | 0 => rfl
  | k + 1 => by rw [higTo, List.length_append, higTo_len l b k]; rfl
theorem higTo_succ (l : List (Int × Int)) (b : Int) (k : Nat) : higTo l b (k + 1) = higTo l b k ++ [(tm l k, pt l k + b)] := rfl
theorem higTo_map (l : List (Int × Int)) (b : Int) : ∀ k, k ≤ l.length → higTo l b k = (l.take k).map fun x => (x.1, x.2 + b)
  | 0, _ => rfl
  | k + 1, h => by
    have hk : k < l.length := by omega
    rw [higTo, higTo_map l b k (by omega), List.take_succ_eq_append_getElem hk, List.map_append]
    simp [tm, pt, List.getD, hk]
def higL (l : List (Int × Int)) (b : Int) : List (Int × Int) := higTo l b l.length
theorem higL_len (l : List (Int × Int)) (b : Int) : (higL l b).length = l.length := higTo_len l b l.length
theorem higL_map (l : List (Int × Int)) (b : Int) : higL l b = l.map fun x => (x.1, x.2 + b) := by
  unfold higL; rw [higTo_map l b l.length (Nat.le_refl _), List.take_length]
noncomputable def higB (l : List (Int × Int)) (b : Int) : Bool := decide (tuneB l = true ∧ (-60 ≤ b ∧ b ≤ 60) ∧ tuneB (higL l b) = true)
noncomputable def higR (l : List (Int × Int)) (b : Int) : List (Int × Int) := if higB l b = true then higL l b else l
theorem higR_len (l : List (Int × Int)) (b : Int) : (higR l b).length = l.length := by
  unfold higR; split
  · exact higL_len l b
  · rfl
theorem hig_no {l : List (Int × Int)} {b : Int} (h : ¬ (tuneB l = true ∧ (-60 ≤ b ∧ b ≤ 60) ∧ tuneB (higL l b) = true)) : higB l b = false ∧ higR l b = l := by
  have h1 : higB l b = false := decide_eq_false h
  exact ⟨h1, by unfold higR; rw [h1]; rfl⟩
theorem hig_yes {l : List (Int × Int)} {b : Int} (h : tuneB l = true ∧ (-60 ≤ b ∧ b ≤ 60) ∧ tuneB (higL l b) = true) : higB l b = true ∧ higR l b = higL l b := by
  have h1 : higB l b = true := decide_eq_true h
  exact ⟨h1, by unfold higR; rw [h1]; rfl⟩
attribute [local irreducible] tm pt tuneB higTo higL higR higB in
set_option maxHeartbeats 1600000 in
theorem spec_moveP (A : Option Addr) (c : Nat) (l : List (Int × Int)) (n : Int) (w : World) (hrd : RdN w A l) (hl : l.length ≤ 1000000000) (hA : A = none → c = 0) (h1 : -60 ≤ n ∧ n ≤ 60) :
    Calls Try.prog 78 #[.slice A l.length c, .int .i64 1, .int .i64 0, .int .i64 n] w (RetNB 39 w.heap.size (higR l n) (higB l n) w) := by
  have hn1 := h1.1
  have hn2 := h1.2
  cases hB : tuneB l
  · have HB := Lib.hid hB
    have HX := Lib.hid (hig_no (l := l) (b := n) (by rw [hB]; simp))
    clear hB
    go_enter Try.func78, Try.ntmps78
    go_wp2_with fail
    refine (spec_TuneOk _ _ _ _ hrd (by omega)).mono ?_
    rintro e w1 ⟨rfl, hb1⟩
    rw [HB.out]
    go_wp2_with fail
    refine (l02Copy_any A c l w1 (hrd.below hb1 rfl) hl hA).mono ?_
    rintro e w2 ⟨A2, c2, rfl, ho, _, _, _, _, hb2⟩
    have HO := Lib.hid (ho.base_le hb1.size)
    have HB2 := Lib.hid (hb1.trans (hb2.mono hb1.size))
    clear ho hb2
    go_wp2
    go_ret2
    rw [HX.out.1, HX.out.2]
    exact RetNB.mk HO.out HB2.out
  · have HB := Lib.hid hB
    have hl40 := tune_len5 hB
    have HT := Lib.hid (fun (k : Nat) (hk : k < l.length) => tm_rng hB hk)
    have HP := Lib.hid (fun (k : Nat) (hk : k < l.length) => pt_rng hB hk)
    have HY := Lib.hid (fun (hh : tuneB (higL l n) = true) => hig_yes (l := l) (b := n) ⟨hB, h1, hh⟩)
    have HZ := Lib.hid (fun (hh : tuneB (higL l n) = false) => hig_no (l := l) (b := n) (fun h => by rw [hh] at h; exact absurd h.2.2 (by simp)))
    have HZ0 := Lib.hid (show higTo l n 0 = [] by unfold higTo; rfl)
    have HAL := Lib.hid (higTo_len l n)
    have HLL := Lib.hid (show higTo l n l.length = higL l n by unfold higL; rfl)
    have HLN := Lib.hid (higL_len l n)
    clear hB h1
    go_enter Try.func78, Try.ntmps78
    go_wp2_with fail
    refine (spec_TuneOk _ _ _ _ hrd (by omega)).mono ?_
    rintro e w1 ⟨rfl, hb1⟩
    rw [HB.out]
    have ho1 := (OwnN.lit0 w1 39).base_le hb1.size
    have hb01 := hb1.alloc hb1.size (.cells #[] 39)
    go_wp2
    go_loopw [10, 11] (fun v i wr => ∃ (k go co : Nat), k ≤ l.length ∧ v = .slice (some ⟨go, 0, none⟩) (higTo l n k).length co ∧ i = .int .i64 k ∧ OwnN 39 w.heap.size wr (.slice (some ⟨go, 0, none⟩) (higTo l n k).length co) (higTo l n k) ∧ Below w.heap.size w wr) (fun _ i _ => l.length - (intOf i).toNat)
    case atStart => exact ⟨0, w1.heap.size, 0, by omega, by rw [HZ0.out]; rfl, rfl, by rw [HZ0.out]; exact ho1, hb01⟩
    case round =>
      obtain ⟨k, go, co, hk, rfl, rfl, ho, hb⟩ := hrel
      by_cases hlt : k < l.length
      · obtain ⟨b, o, rfl, lb, hc⟩ := hrd (by omega)
        have k1 := (hb.cell (p := ⟨b, o + k * 2, none⟩) lb).trans (hc k hlt).1
        have k2 := (hb.cell (p := ⟨b, o + k * 2 + 1, none⟩) lb).trans (hc k hlt).2
        have h0a : (0 : Int) ≤ (k : Int) := by omega
        have h0b : (k : Int) < (l.length : Int) := by omega
        have ht1 := (HT.out k hlt).1
        have ht2 := (HT.out k hlt).2
        have hp1 := (HP.out k hlt).1
        have hp2 := (HP.out k hlt).2
        have hlen : (higTo l n k).length ≤ 40 := by rw [HAL.out]; omega
        have HN := Lib.hid (higTo_succ l n k)
        have hw1 : IntKind.i64.wrap (pt l k + n) = pt l k + n := IntWalk.i64_in _ (by omega)
        have hw0 : IntKind.i64.wrap (tm l k) = tm l k := IntWalk.i64_in _ (by omega)
        have hwp : IntKind.i64.wrap (pt l k) = pt l k := IntWalk.i64_in _ (by omega)
        clear hc
        have hbs := hb.size
        go_wp2_with fail
        go_region_held3 (fun w' => w'.cell? ⟨b, o + k * 2, none⟩ = some (.int .i64 (tm l k)) ∧ w'.cell? ⟨b, o + k * 2 + 1, none⟩ = some (.int .i64 (pt l k)) ∧ Below w.heap.size wr w')
          (first | exact ⟨k1, k2, (Below.refl _ _).drew⟩ | exact ⟨k1, k2, Below.refl _ _⟩ | assumption | exact heldW_keep lb (by assumption) ((Below.refl _ _).alloc (Nat.le_trans hbs (heldW_bel (by assumption)).size) _) | exact heldW_keep lb (by assumption) ((Below.refl _ _).alloc (Nat.le_trans hbs (heldW_bel (by assumption)).size) _).drew | exact heldW_keep lb (by assumption) hbn3)
          ((refine step_app_pairs rfl (.tmp 24) (.tmp 42) _ rfl 39 Try.underlying24 (by kernel_rfl) w.heap.size go co _ 1 (higTo l n k) [(tm l k, pt l k + n)] _ 1 rfl rfl rfl rfl rfl (ho.alloc _) (rd_one _ _ _ _) (len_1 hlen) (Nat.le_trans hbs (heldW_bel (by assumption)).size) ?_; intro g3 c3 w3 hown3 hbn3 hgr3))
        have hB3 : Below w.heap.size w w3 := hb.trans (heldW_bel (by assumption))
        go_wp2
        go_roundw
        case rel => exact ⟨k + 1, g3, c3, by omega, by rw [HN.out]; simp, by go_num, by rw [HN.out]; exact hown3, hB3⟩
        case measure => simp [intOf]; omega
      · obtain rfl : k = l.length := by omega
        rw [HLL.out] at ho ⊢
        go_wp2_with fail
        refine (spec_TuneOk _ _ _ _ ho.rdA (by rw [HLN.out]; omega)).mono ?_
        rintro e w5 ⟨rfl, hb5⟩
        have hB5 := hb.trans (hb5.mono hb.size)
        have ho5 := ho.below hb5 rfl
        cases hh : tuneB (higL l n)
        · have HYY := Lib.hid (HZ.out hh)
          clear hh
          go_wp2_with fail
          refine (l02Copy_any A c l w5 (hrd.below hB5 rfl) hl hA).mono ?_
          rintro e w2 ⟨A2, c2, rfl, ho2, _, _, _, _, hb2⟩
          have HO := Lib.hid (ho2.base_le hB5.size)
          have HB2 := Lib.hid (hB5.trans (hb2.mono hB5.size))
          clear ho2 hb2
          go_wp2
          go_ret2
          rw [HYY.out.1, HYY.out.2]
          exact RetNB.mk HO.out HB2.out
        · have HYY := Lib.hid (HY.out hh)
          clear hh
          go_wp2
          go_ret2
          rw [HYY.out.1, HYY.out.2]
          exact RetNB.mk ho5 hB5
attribute [local irreducible] tm pt tuneB higTo higL higR higB in
theorem spec_Higher (A : Option Addr) (c : Nat) (l : List (Int × Int)) (n : Int) (w : World) (hrd : RdN w A l) (hl : l.length ≤ 1000000000) (hA : A = none → c = 0) :
    Calls Try.prog 24 #[.slice A l.length c, .int .i64 n] w (RetNB 39 w.heap.size (higR l n) (higB l n) w) := by
  by_cases h1 : -60 ≤ n ∧ n ≤ 60
  · go_enter Try.func24, Try.ntmps24
    go_wp2_with (first | (go_at_call 76; refine (in_yes _ _ _ _ (by assumption)).mono ?_; rintro e wz ⟨rfl, rfl⟩) | (go_at_call 78; refine (spec_moveP _ _ _ _ _ hrd hl hA h1).mono ?_; rintro e w2 ⟨A2, c2, rfl, ho, _, _, _, _, hb2⟩))
    go_ret2
    exact RetNB.mk ho hb2
  · have HX := Lib.hid (hig_no (l := l) (b := n) (fun h => h1 h.2.1))
    go_enter Try.func24, Try.ntmps24
    go_wp2_with (first | (go_at_call 76; refine (in_no _ _ _ _ (by assumption)).mono ?_; rintro e wz ⟨rfl, rfl⟩) | (go_at_call 77; refine (l02Copy_any _ _ _ _ hrd hl hA).mono ?_; rintro e w2 ⟨A2, c2, rfl, ho, _, _, _, _, hb2⟩))
    go_ret2
    rw [HX.out.1, HX.out.2]
    exact RetNB.mk ho hb2
end Go.Proofs.Ytjfaodbjmanfnaa
