/- spec.JoinTunes: two tunes joined. -/
import Derived.Test.YtajlopigpppeaaaLaterS
namespace Go.Proofs.Ytajlopigpppeaaa
open Go.ChangeShapes Go.WideShapes Go.ChangeAt Go.RowKit
set_option linter.unusedVariables false
/-- Whether a note of b is among the first i of a. -/
def fndTo (a b : List (Int × Int)) (k i : Nat) : Bool := decide ((tm b k, pt b k) ∈ a.take i)
theorem fnd_zero (a b : List (Int × Int)) (k : Nat) : fndTo a b k 0 = false := by simp [fndTo]
theorem fnd_all (a b : List (Int × Int)) (k : Nat) : fndTo a b k a.length = decide ((tm b k, pt b k) ∈ a) := by simp [fndTo]
theorem fnd_mem {a b : List (Int × Int)} {k i : Nat} (hi : i < a.length) : ((tm b k, pt b k) ∈ a.take (i + 1)) ↔ ((tm b k, pt b k) ∈ a.take i) ∨ (tm a i = tm b k ∧ pt a i = pt b k) := by
  have e1 : tm a i = a[i].1 := by simp [tm, List.getD, hi]
  have e2 : pt a i = a[i].2 := by simp [pt, List.getD, hi]
  rw [List.take_succ_eq_append_getElem hi, List.mem_append, List.mem_singleton, e1, e2]
  constructor
  · rintro (h | h)
    · exact Or.inl h
    · exact Or.inr ⟨by rw [← h], by rw [← h]⟩
  · rintro (h | ⟨h1, h2⟩)
    · exact Or.inl h
    · exact Or.inr (by rw [← h1, ← h2])
theorem fnd_yes {a b : List (Int × Int)} {k i : Nat} (hi : i < a.length) (h : tm a i = tm b k ∧ pt a i = pt b k) : fndTo a b k (i + 1) = true := decide_eq_true ((fnd_mem hi).2 (Or.inr h))
theorem fnd_no {a b : List (Int × Int)} {k i : Nat} (hi : i < a.length) (h : ¬ (tm a i = tm b k ∧ pt a i = pt b k)) : fndTo a b k (i + 1) = fndTo a b k i := by
  unfold fndTo
  rw [decide_eq_decide, fnd_mem hi]
  exact ⟨fun h' => h'.elim id (fun h' => absurd h' h), Or.inl⟩
theorem fnd_keep {a b : List (Int × Int)} {k i : Nat} (hi : i < a.length) (h : fndTo a b k i = true) : fndTo a b k (i + 1) = true := decide_eq_true ((fnd_mem hi).2 (Or.inl (of_decide_eq_true h)))
attribute [local irreducible] tm pt tuneB joiZ joiR joiB srt jonTo fndTo srt40 in
set_option maxHeartbeats 1600000 in
theorem spec_Join (A B : Option Addr) (c d : Nat) (a b : List (Int × Int)) (w : World) (hra : RdN w A a) (hrb : RdN w B b) (hla : a.length ≤ 1000000000) (hlb : b.length ≤ 1000000000) (hA : A = none → c = 0) :
    Calls Try.prog 60 #[.slice A a.length c, .slice B b.length d] w (RetNB 42 w.heap.size (joiR a b) (joiB a b) w) := by
  have hz := OwnN.lit0 w 42
  have hbz : Below w.heap.size w (w.alloc (.cells #[] 42)) := (Below.refl _ _).alloc (Nat.le_refl _) _
  have hra1 := fun (o : Obj) => hra.below ((Below.refl _ _).alloc (Nat.le_refl _) o) rfl
  cases h1 : tuneB a
  · have HX := Lib.hid (joi_no (a := a) (b := b) (by rw [h1]; simp))
    have H1 := Lib.hid h1
    clear h1
    go_enter Try.func60, Try.ntmps60
    go_wp2_with fail
    refine (spec_TuneOk _ _ _ _ (hra1 _) (by omega)).mono ?_
    rintro e w1 ⟨rfl, hb1⟩
    rw [H1.out]
    go_wp2
    go_ret2
    rw [HX.out.1, HX.out.2]
    exact RetNB.mk (hz.below hb1 rfl) (hbz.trans (hb1.mono hbz.size))
  · cases h2 : tuneB b
    · have HX := Lib.hid (joi_no (a := a) (b := b) (by rw [h2]; simp))
      have H1 := Lib.hid h1
      have H2 := Lib.hid h2
      clear h1 h2
      go_enter Try.func60, Try.ntmps60
      go_wp2_with fail
      refine (spec_TuneOk _ _ _ _ (hra1 _) (by omega)).mono ?_
      rintro e w1 ⟨rfl, hb1⟩
      rw [H1.out]
      have hb01 := hbz.trans (hb1.mono hbz.size)
      have hz1 := hz.below hb1 rfl
      go_wp2_with fail
      refine (spec_TuneOk _ _ _ _ (hrb.below hb01 rfl) (by omega)).mono ?_
      rintro e w2 ⟨rfl, hb2⟩
      rw [H2.out]
      go_wp2
      go_ret2
      rw [HX.out.1, HX.out.2]
      exact RetNB.mk (hz1.below hb2 rfl) (hb01.trans (hb2.mono hb01.size))
    · have H1 := Lib.hid h1
      have H2 := Lib.hid h2
      have hal := tune_len5 h1
      have hbl := tune_len5 h2
      have HY := Lib.hid (fun (hh : (joiZ a b).length ≤ 40) => joi_yes (a := a) (b := b) ⟨h1, h2, hh⟩)
      have HZ := Lib.hid (fun (hh : ¬ (joiZ a b).length ≤ 40) => joi_no (a := a) (b := b) (fun h => hh h.2.2))
      have HJ := Lib.hid (joi_srt a b)
      have HJL := Lib.hid (joi_len h1 h2)
      have HK := Lib.hid (jonTo_len a b)
      have HZ0 := Lib.hid (show jonTo a b 0 = a by unfold jonTo; rfl)
      clear h1 h2
      go_enter Try.func60, Try.ntmps60
      go_wp2_with fail
      refine (spec_TuneOk _ _ _ _ (hra1 _) (by omega)).mono ?_
      rintro e w1 ⟨rfl, hb1⟩
      rw [H1.out]
      have hb01 := hbz.trans (hb1.mono hbz.size)
      go_wp2_with fail
      refine (spec_TuneOk _ _ _ _ (hrb.below hb01 rfl) (by omega)).mono ?_
      rintro e w2 ⟨rfl, hb2⟩
      rw [H2.out]
      have hb02 := hb01.trans (hb2.mono hb01.size)
      go_wp2_with fail
      refine (l02Copy_any A c a w2 (hra.below hb02 rfl) hla hA).mono ?_
      rintro e w3 ⟨A3, c3, rfl, ho3, _, _, _, _, hb3⟩
      have hb03 := hb02.trans (hb3.mono hb02.size)
      have ho3' := ho3.base_le hb02.size
      go_wp2
      go_loopw [6, 7] (fun v i wr => ∃ k : Nat, k ≤ b.length ∧ i = .int .i64 k ∧ OwnN 42 w.heap.size wr v (jonTo a b k) ∧ Below w.heap.size w wr) (fun _ i _ => b.length - (intOf i).toNat)
      case atStart => exact ⟨0, by omega, rfl, by rw [HZ0.out]; exact ho3', hb03⟩
      case round =>
        obtain ⟨k, hk, rfl, ho, hb⟩ := hrel
        by_cases hlt : k < b.length
        · obtain ⟨wo, hwo⟩ : ∃ wo, wo = wr := ⟨wr, rfl⟩
          subst hwo
          have h0a : (0 : Int) ≤ (k : Int) := by omega
          have h0b : (k : Int) < (b.length : Int) := by omega
          have F0 := Lib.hid (fnd_zero a b k)
          have FA := Lib.hid (fnd_all a b k)
          have JY := Lib.hid (fun h => jonTo_yes (a := a) (b := b) (k := k) h)
          have JN := Lib.hid (fun h => jonTo_no (a := a) (b := b) (k := k) h)
          have hkl := HK.out k
          go_wp2
          go_loopw [8, 9] (fun f i wt => ∃ j : Nat, j ≤ a.length ∧ f = .bool (fndTo a b k j) ∧ i = .int .i64 j ∧ Below wo.heap.size wo wt) (fun _ i _ => a.length - (intOf i).toNat)
          case atStart => exact ⟨0, by omega, by rw [F0.out], rfl, Below.refl _ _⟩
          case round =>
            obtain ⟨j, hj, rfl, rfl, hbt⟩ := hrel
            have hB := hb.trans (hbt.mono hb.size)
            obtain ⟨b2, o2, rfl, lb2, hc2⟩ := hrb (by omega)
            have k3 := (hB.cell (p := ⟨b2, o2 + k * 2, none⟩) lb2).trans (hc2 k hlt).1
            have k4 := (hB.cell (p := ⟨b2, o2 + k * 2 + 1, none⟩) lb2).trans (hc2 k hlt).2
            clear hc2
            by_cases hjl : j < a.length
            · obtain ⟨b1, o1, rfl, lb1, hc1⟩ := hra (by omega)
              have k1 := (hB.cell (p := ⟨b1, o1 + j * 2, none⟩) lb1).trans (hc1 j hjl).1
              have k2 := (hB.cell (p := ⟨b1, o1 + j * 2 + 1, none⟩) lb1).trans (hc1 j hjl).2
              have h0c : (0 : Int) ≤ (j : Int) := by omega
              have h0d : (j : Int) < (a.length : Int) := by omega
              clear hc1
              cases hf : fndTo a b k j
              · by_cases e1 : tm a j = tm b k
                · by_cases e2 : pt a j = pt b k
                  · have HF := Lib.hid (fnd_yes hjl ⟨e1, e2⟩)
                    have q1 : (tm a j == tm b k) = true := by simpa using e1
                    have q2 : (pt a j == pt b k) = true := by simpa using e2
                    clear e1 e2 hf
                    go_wp2_with fail
                    go_quiet (fail)
                    go_wp2
                    go_roundw
                    case rel => exact ⟨j + 1, by omega, by rw [HF.out], by go_num, bel_drewN hbt _⟩
                    case measure => simp [intOf]; omega
                  · have HF := Lib.hid ((fnd_no hjl (fun h => e2 h.2)).trans hf)
                    have q1 : (tm a j == tm b k) = true := by simpa using e1
                    have q2 : (pt a j == pt b k) = false := by simpa using e2
                    clear e1 e2 hf
                    go_wp2_with fail
                    go_quiet (fail)
                    go_wp2
                    go_roundw
                    case rel => exact ⟨j + 1, by omega, by rw [HF.out], by go_num, bel_drewN hbt _⟩
                    case measure => simp [intOf]; omega
                · have HF := Lib.hid ((fnd_no hjl (fun h => e1 h.1)).trans hf)
                  have q1 : (tm a j == tm b k) = false := by simpa using e1
                  clear e1 hf
                  go_wp2_with fail
                  go_quiet (fail)
                  go_wp2
                  go_roundw
                  case rel => exact ⟨j + 1, by omega, by rw [HF.out], by go_num, bel_drewN hbt _⟩
                  case measure => simp [intOf]; omega
              · have HF := Lib.hid (fnd_keep hjl hf)
                clear hf
                go_wp2_with fail
                go_quiet (fail)
                go_wp2
                go_roundw
                case rel => exact ⟨j + 1, by omega, by rw [HF.out], by go_num, bel_drewN hbt _⟩
                case measure => simp [intOf]; omega
            · obtain rfl : j = a.length := by omega
              have hot := ho.below hbt rfl
              by_cases hm : (tm b k, pt b k) ∈ a
              · have HJ1 := Lib.hid (JY.out hm)
                have hf : fndTo a b k a.length = true := by rw [FA.out]; exact decide_eq_true hm
                rw [hf]
                clear hf hm
                go_wp2
                go_roundw
                case rel => exact ⟨k + 1, by omega, by go_num, by rw [HJ1.out]; exact hot, hB⟩
                case measure => simp [intOf]; omega
              · have HJ1 := Lib.hid (JN.out hm)
                have hf : fndTo a b k a.length = false := by rw [FA.out]; exact decide_eq_false hm
                rw [hf]
                clear hf hm
                go_wp2_with (at_builtin; refine app_pair rfl _ _ 26 rfl 42 Try.underlying26 (by kernel_rfl) w.heap.size _ (jonTo a b k) (tm b k) (pt b k) hot rfl rfl (by omega) hB.size ?_; intro v' w5 hown5 hb5)
                go_roundw
                case rel => exact ⟨k + 1, by omega, by go_num, by rw [HJ1.out]; exact hown5, hB.trans hb5⟩
                case measure => simp [intOf]; omega
        · obtain rfl : k = b.length := by omega
          obtain ⟨A4, c4, he4, ho4, h41, h42, h43, h44, h45⟩ := RetN.mk ho hb
          injection he4 with he4
          subst he4
          by_cases hh : (joiZ a b).length ≤ 40
          · have HYY := Lib.hid (HY.out hh)
            have h40 : ((jonTo a b b.length).length : Int) ≤ 40 := by rw [HJL.out]; omega
            have HSS := Lib.hid (show srt40 (jonTo a b b.length) = joiZ a b by unfold srt40; rw [if_pos (by omega), HJ.out])
            clear hh
            go_wp2_with fail
            refine (spec_SortNotes _ _ _ _ h44 (by omega)).mono ?_
            rintro e w5 ⟨A5, c5, rfl, ho5, _, _, _, hr5, hb5⟩
            rw [HSS.out] at ho5 ⊢
            have HO5 := Lib.hid (ho5.base_le hb.size)
            have hB5 := hb.trans (hb5.mono hb.size)
            clear ho5
            go_wp2
            go_ret2
            rw [HYY.out.1, HYY.out.2]
            exact RetNB.mk HO5.out hB5
          · have HYY := Lib.hid (HZ.out hh)
            have h40 : (40 : Int) < ((jonTo a b b.length).length : Int) := by rw [HJL.out]; omega
            clear hh
            go_wp2
            go_ret2
            rw [HYY.out.1, HYY.out.2]
            exact RetNB.mk ((OwnN.lit0 wr 42).base_le hb.size) (hb.alloc hb.size _)
end Go.Proofs.Ytajlopigpppeaaa
