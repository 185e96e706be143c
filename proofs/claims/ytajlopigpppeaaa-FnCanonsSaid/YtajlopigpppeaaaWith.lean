/- WithItself: a tune joined with itself, later. -/
import Derived.Test.YtajlopigpppeaaaJoinI
import Derived.Test.YtajlopigpppeaaaJoinS
namespace Go.Proofs.Ytajlopigpppeaaa
open Go.ChangeShapes Go.WideShapes Go.ChangeAt Go.RowKit
set_option linter.unusedVariables false
noncomputable def winB (l : List (Int × Int)) (n : Int) : Bool := decide (0 ≤ n ∧ n ≤ 1000) && (latB l n && joiB l (latR l n))
noncomputable def winR (l : List (Int × Int)) (n : Int) : List (Int × Int) := if winB l n = true then joiR l (latR l n) else []
theorem winR_len (l : List (Int × Int)) (n : Int) : (winR l n).length ≤ 40 := by
  unfold winR
  split
  · exact joiR_len _ _
  · simp
theorem win_no {l : List (Int × Int)} {n : Int} (h : ¬ (0 ≤ n ∧ n ≤ 1000)) : winB l n = false ∧ winR l n = [] := by
  have h1 : winB l n = false := by unfold winB; rw [decide_eq_false h]; rfl
  exact ⟨h1, by unfold winR; rw [h1]; rfl⟩
theorem win_no2 {l : List (Int × Int)} {n : Int} (h : latB l n = false) : winB l n = false ∧ winR l n = [] := by
  have h1 : winB l n = false := by unfold winB; rw [h]; simp
  exact ⟨h1, by unfold winR; rw [h1]; rfl⟩
theorem win_yes {l : List (Int × Int)} {n : Int} (h : 0 ≤ n ∧ n ≤ 1000) (h2 : latB l n = true) : winB l n = joiB l (latR l n) ∧ winR l n = joiR l (latR l n) := by
  have h1 : winB l n = joiB l (latR l n) := by unfold winB; rw [decide_eq_true h, h2]; rfl
  refine ⟨h1, ?_⟩
  unfold winR
  rw [h1]
  cases hj : joiB l (latR l n)
  · rw [if_neg (by simp)]; unfold joiR; rw [hj]; rfl
  · rw [if_pos rfl]
attribute [local irreducible] tm pt tuneB latR latB joiR joiB winR winB in
set_option maxHeartbeats 1600000 in
theorem impl_With (A : Option Addr) (c : Nat) (l : List (Int × Int)) (n : Int) (w : World) (hrd : RdN w A l) (hl : l.length ≤ 1000000000) (hA : A = none → c = 0) :
    Calls Try.prog 21 #[.slice A l.length c, .int .i64 n] w (RetNB 42 w.heap.size (winR l n) (winB l n) w) := by
  by_cases h1 : 0 ≤ n ∧ n ≤ 1000
  · cases h2 : latB l n
    · have HX := Lib.hid (win_no2 h2)
      have H2 := Lib.hid h2
      clear h2
      go_enter Try.func21, Try.ntmps21
      go_wp2_with (go_at_call 61; refine (wi_yes _ _ _ _ (by assumption)).mono ?_; rintro e wz ⟨rfl, rfl⟩)
      refine (impl_Later _ _ _ _ _ hrd hl hA).mono ?_
      rintro e w1 ⟨A1, c1, rfl, ho1, _, _, _, _, hb1⟩
      rw [H2.out]
      go_wp2
      go_ret2
      rw [HX.out.1, HX.out.2]
      exact RetNB.mk (OwnN.nil0 _ _ _) hb1
    · have HX := Lib.hid (win_yes h1 h2)
      have H2 := Lib.hid h2
      have HL := Lib.hid (latR_len l n)
      clear h2
      go_enter Try.func21, Try.ntmps21
      go_wp2_with (go_at_call 61; refine (wi_yes _ _ _ _ (by assumption)).mono ?_; rintro e wz ⟨rfl, rfl⟩)
      refine (impl_Later _ _ _ _ _ hrd hl hA).mono ?_
      rintro e w1 ⟨A1, c1, rfl, ho1, _, _, hn1, hr1, hb1⟩
      rw [H2.out]
      go_wp2_with fail
      refine (impl_Join _ _ _ _ _ _ _ (hrd.below hb1 rfl) hr1 hl (by rw [HL.out]; exact hl) hA hn1).mono ?_
      rintro e w2 ⟨A2, c2, rfl, ho2, _, _, _, _, hb2⟩
      have HO := Lib.hid (ho2.base_le hb1.size)
      have HB := Lib.hid (hb1.trans (hb2.mono hb1.size))
      clear ho2 hb2
      go_wp2
      go_ret2
      rw [HX.out.1, HX.out.2]
      exact RetNB.mk HO.out HB.out
  · have HX := Lib.hid (win_no (l := l) h1)
    go_enter Try.func21, Try.ntmps21
    go_wp2_with (go_at_call 61; refine (wi_no _ _ _ _ (by assumption)).mono ?_; rintro e wz ⟨rfl, rfl⟩)
    go_ret2
    rw [HX.out.1, HX.out.2]
    exact RetNB.mk (OwnN.nil0 _ _ _) (Below.refl _ _)
attribute [local irreducible] tm pt tuneB latR latB joiR joiB winR winB in
set_option maxHeartbeats 1600000 in
theorem spec_With (A : Option Addr) (c : Nat) (l : List (Int × Int)) (n : Int) (w : World) (hrd : RdN w A l) (hl : l.length ≤ 1000000000) (hA : A = none → c = 0) :
    Calls Try.prog 20 #[.slice A l.length c, .int .i64 n] w (RetNB 42 w.heap.size (winR l n) (winB l n) w) := by
  by_cases h1 : 0 ≤ n ∧ n ≤ 1000
  · cases h2 : latB l n
    · have HX := Lib.hid (win_no2 h2)
      have H2 := Lib.hid h2
      clear h2
      go_enter Try.func20, Try.ntmps20
      go_wp2_with (go_at_call 58; refine (in_yes _ _ _ _ (by assumption)).mono ?_; rintro e wz ⟨rfl, rfl⟩)
      refine (spec_Later _ _ _ _ _ hrd hl hA).mono ?_
      rintro e w1 ⟨A1, c1, rfl, ho1, _, _, _, _, hb1⟩
      rw [H2.out]
      go_wp2
      go_ret2
      rw [HX.out.1, HX.out.2]
      exact RetNB.mk ((OwnN.lit0 w1 42).base_le hb1.size) (hb1.alloc hb1.size _)
    · have HX := Lib.hid (win_yes h1 h2)
      have H2 := Lib.hid h2
      have HL := Lib.hid (latR_len l n)
      clear h2
      go_enter Try.func20, Try.ntmps20
      go_wp2_with (go_at_call 58; refine (in_yes _ _ _ _ (by assumption)).mono ?_; rintro e wz ⟨rfl, rfl⟩)
      refine (spec_Later _ _ _ _ _ hrd hl hA).mono ?_
      rintro e w1 ⟨A1, c1, rfl, ho1, _, _, hn1, hr1, hb1⟩
      rw [H2.out]
      go_wp2_with fail
      refine (spec_Join _ _ _ _ _ _ _ (hrd.below hb1 rfl) hr1 hl (by rw [HL.out]; exact hl) hA).mono ?_
      rintro e w2 ⟨A2, c2, rfl, ho2, _, _, _, _, hb2⟩
      have HO := Lib.hid (ho2.base_le hb1.size)
      have HB := Lib.hid (hb1.trans (hb2.mono hb1.size))
      clear ho2 hb2
      go_wp2
      go_ret2
      rw [HX.out.1, HX.out.2]
      exact RetNB.mk HO.out HB.out
  · have HX := Lib.hid (win_no (l := l) h1)
    go_enter Try.func20, Try.ntmps20
    go_wp2_with (go_at_call 58; refine (in_no _ _ _ _ (by assumption)).mono ?_; rintro e wz ⟨rfl, rfl⟩)
    go_ret2
    rw [HX.out.1, HX.out.2]
    exact RetNB.mk (OwnN.lit0 _ _) ((Below.refl _ _).alloc (Nat.le_refl _) _)
end Go.Proofs.Ytajlopigpppeaaa
