/- impl.JoinTunes: two tunes joined. -/
import Derived.Test.YtajlopigpppeaaaLaterI
namespace Go.Proofs.Ytajlopigpppeaaa
open Go.ChangeShapes Go.WideShapes Go.ChangeAt Go.RowKit
set_option linter.unusedVariables false
attribute [local irreducible] tm pt tuneB joiZ joiR joiB srt in
set_option maxHeartbeats 1600000 in
theorem impl_Join (A B : Option Addr) (c d : Nat) (a b : List (Int × Int)) (w : World) (hra : RdN w A a) (hrb : RdN w B b) (hla : a.length ≤ 1000000000) (hlb : b.length ≤ 1000000000) (hA : A = none → c = 0) (hB : B = none → d = 0) :
    Calls Try.prog 63 #[.slice A a.length c, .slice B b.length d] w (RetNB 42 w.heap.size (joiR a b) (joiB a b) w) := by
  cases h1 : tuneB a
  · have HX := Lib.hid (joi_no (a := a) (b := b) (by rw [h1]; simp))
    have H1 := Lib.hid h1
    clear h1
    go_enter Try.func63, Try.ntmps63
    go_wp2_with fail
    refine (impl_TuneOk _ _ _ _ hra (by omega)).mono ?_
    rintro e w1 ⟨rfl, hb1⟩
    rw [H1.out]
    go_wp2
    go_ret2
    rw [HX.out.1, HX.out.2]
    exact RetNB.mk (OwnN.nil0 _ _ _) hb1
  · cases h2 : tuneB b
    · have HX := Lib.hid (joi_no (a := a) (b := b) (by rw [h2]; simp))
      have H1 := Lib.hid h1
      have H2 := Lib.hid h2
      clear h1 h2
      go_enter Try.func63, Try.ntmps63
      go_wp2_with fail
      refine (impl_TuneOk _ _ _ _ hra (by omega)).mono ?_
      rintro e w1 ⟨rfl, hb1⟩
      rw [H1.out]
      go_wp2_with fail
      refine (impl_TuneOk _ _ _ _ (hrb.below hb1 rfl) (by omega)).mono ?_
      rintro e w2 ⟨rfl, hb2⟩
      rw [H2.out]
      go_wp2
      go_ret2
      rw [HX.out.1, HX.out.2]
      exact RetNB.mk (OwnN.nil0 _ _ _) (hb1.trans (hb2.mono hb1.size))
    · have H1 := Lib.hid h1
      have H2 := Lib.hid h2
      have hal := tune_len5 h1
      have hbl := tune_len5 h2
      have HT := Lib.hid (joi_tune h1 h2)
      have HY := Lib.hid (fun (hh : (joiZ a b).length ≤ 40) => joi_yes (a := a) (b := b) ⟨h1, h2, hh⟩)
      have HZ := Lib.hid (fun (hh : ¬ (joiZ a b).length ≤ 40) => joi_no (a := a) (b := b) (fun h => hh h.2.2))
      have HJ := Lib.hid (show srt (a ++ b) = joiZ a b by unfold joiZ; rfl)
      have HJL := Lib.hid (show (joiZ a b).length ≤ 80 by unfold joiZ srt; have := srtTo_len (a ++ b) (a ++ b).length; rw [List.length_append] at this; rw [List.length_append]; omega)
      clear h1 h2
      go_enter Try.func63, Try.ntmps63
      go_wp2_with fail
      refine (impl_TuneOk _ _ _ _ hra (by omega)).mono ?_
      rintro e w1 ⟨rfl, hb1⟩
      rw [H1.out]
      go_wp2_with fail
      refine (impl_TuneOk _ _ _ _ (hrb.below hb1 rfl) (by omega)).mono ?_
      rintro e w2 ⟨rfl, hb2⟩
      rw [H2.out]
      have hb02 := hb1.trans (hb2.mono hb1.size)
      go_wp2_with fail
      refine (copyNotes_any A c a w2 (hra.below hb02 rfl) hla hA).mono ?_
      rintro e w3 ⟨A3, c3, rfl, ho3, _, _, _, _, hb3⟩
      have hb03 := hb02.trans (hb3.mono hb02.size)
      have ho3' := ho3.base_le hb02.size
      go_wp2_with (at_builtin; refine app_pairs rfl _ _ 26 rfl 42 Try.underlying26 (by kernel_rfl) w.heap.size _ a b B d ho3' (hrb.below hb03 rfl) rfl rfl (by omega) hb03.size hB ?_; intro v' w4 hown4 hb4)
      have hb04 := hb03.trans hb4
      obtain ⟨A4, c4, he4, ho4, h41, h42, h43, h44, h45⟩ := RetN.mk hown4 hb04
      injection he4 with he4
      subst he4
      refine (sorted_any _ _ _ _ h44 (by rw [List.length_append]; omega) h43).mono ?_
      rintro e w5 ⟨A5, c5, rfl, ho5, _, _, _, hr5, hb5⟩
      rw [HJ.out] at ho5 hr5 ⊢
      have HO5 := ho5.base_le hb04.size
      have hB5 := hb04.trans (hb5.mono hb04.size)
      clear ho5
      go_wp2_with fail
      refine (impl_TuneOk _ _ _ _ hr5 (by have := HJL.out; omega)).mono ?_
      rintro e w6 ⟨rfl, hb6⟩
      have hB6 := hB5.trans (hb6.mono hB5.size)
      have ho6 := HO5.below hb6 rfl
      by_cases hh : (joiZ a b).length ≤ 40
      · have HYY := Lib.hid (HY.out hh)
        have hT : tuneB (joiZ a b) = true := by rw [HT.out]; exact decide_eq_true hh
        rw [hT]
        clear hh hT
        go_wp2
        go_ret2
        rw [HYY.out.1, HYY.out.2]
        exact RetNB.mk ho6 hB6
      · have HYY := Lib.hid (HZ.out hh)
        have hT : tuneB (joiZ a b) = false := by rw [HT.out]; exact decide_eq_false hh
        rw [hT]
        clear hh hT
        go_wp2
        go_ret2
        rw [HYY.out.1, HYY.out.2]
        exact RetNB.mk (OwnN.nil0 _ _ _) hB6
end Go.Proofs.Ytajlopigpppeaaa
