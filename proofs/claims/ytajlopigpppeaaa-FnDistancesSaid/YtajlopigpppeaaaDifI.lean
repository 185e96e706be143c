/- impl.DiffTimes: the times at which two tunes differ. -/
import Derived.Test.YtajlopigpppeaaaDifS
import Derived.Test.YtajlopigpppeaaaSorted
import Derived.Test.YtajlopigpppeaaaApp
namespace Go.Proofs.Ytajlopigpppeaaa
open Go.ChangeShapes Go.WideShapes Go.ChangeAt Go.RowKit
set_option linter.unusedVariables false
theorem tune_len7 {l : List (Int × Int)} (h : tuneB l = true) : l.length ≤ 40 := (of_decide_eq_true h : tuneP l).2
theorem ne_blockR {W : World} {e s n B : Nat} {v v' ov : Value} {xs : List Value} (hown : W.ownsRow B e s ov n xs) (hne : v.ownBlock ≠ ov.ownBlock) (hv : v'.ownBlock = v.ownBlock ∨ ∃ k, v'.ownBlock = some k ∧ W.heap.size ≤ k) : v'.ownBlock ≠ ov.ownBlock := by
  rcases hv with hv | ⟨k, hv, hk⟩
  · rw [hv]; exact hne
  · intro h
    rw [hv] at h
    have := World.ownsRow.lt hown k h.symm
    omega
theorem ownsRow_low {base B : Nat} {e size : Nat} {w w' : World} {v : Value} {n : Nat} {xs : List Value} (h : w.ownsRow base e size v n xs) (hb : Below B w w') (hB : ∀ k, v.ownBlock = some k → k < B) : w'.ownsRow base e size v n xs := by
  refine ⟨h.1, ?_⟩
  rcases h.2 with hn | ⟨g, cap, cur, hv, hg, hh, rest⟩
  · exact .inl hn
  · exact .inr ⟨g, cap, cur, hv, hg, by rw [hb.block g (hB g (by rw [hv]; rfl))]; exact hh, rest⟩
theorem OwnI.low {base B : Nat} {e : Nat} {w w' : World} {v : Value} {l : List Int} (h : OwnI e base w v l) (hb : Below B w w') (hB : ∀ k, v.ownBlock = some k → k < B) : OwnI e base w' v l := ownsRow_low h hb hB
attribute [local irreducible] tm pt gt tmsTo meB srt in
set_option maxHeartbeats 1600000 in
theorem times_any (A : Option Addr) (c : Nat) (l : List (Int × Int)) (w : World) (hrd : RdN w A l) (hl : l.length ≤ 1000000) (hA : A = none → c = 0) :
    Calls Try.prog 53 #[.slice A l.length c] w (RetI 3 w.heap.size (tmsL l) w) := by
  have HL := Lib.hid (tmsTo_len (srt l))
  have hSL : (srt l).length ≤ l.length := by have := srtTo_len l l.length; unfold srt; omega
  have HZ0 := Lib.hid (show tmsTo (srt l) 0 = [] by unfold tmsTo; rfl)
  have HV := Lib.hid (show tmsTo (srt l) (srt l).length = tmsL l by unfold tmsL; rfl)
  have hrd1 := hrd.below ((Below.refl w.heap.size w).alloc (Nat.le_refl _) (Obj.cells #[] 3)) rfl
  have hb0 := (Below.refl w.heap.size w).alloc (Nat.le_refl _) (Obj.cells #[] 3)
  have ho0 := OwnI.lit0 w 3
  go_enter Try.func53, Try.ntmps53
  go_wp2_with fail
  refine (sorted_any _ _ _ _ hrd1 hl hA).mono ?_
  rintro e w1 ⟨A1, c1, rfl, hoS, _, _, _, _, hb1⟩
  have hz1 : w.heap.size < w1.heap.size := by have := hb1.size; simp at this; omega
  have hb01 := hb0.trans (hb1.mono (by simp))
  have ho1 : OwnI 3 w.heap.size w1 (.slice (some ⟨w.heap.size, 0, none⟩) 0 0) [] := ho0.below hb1 rfl
  have hne1 : (Value.slice (some ⟨w.heap.size, 0, none⟩) 0 0).ownBlock ≠ (Value.slice A1 (srt l).length c1).ownBlock := by
    intro h
    have hx := hoS.blk w.heap.size h.symm
    simp at hx
    omega
  have hoS1 : OwnN 42 w.heap.size w1 (.slice A1 (srt l).length c1) (srt l) := hoS.base_le (by simp)
  obtain ⟨S, hS⟩ : ∃ S, S = srt l := ⟨_, rfl⟩
  rw [← hS] at HL hSL HZ0 HV hne1 hoS1 ⊢
  clear hb1 hoS hrd1 hb0 ho0 hS
  go_wp2
  go_loopw [3, 10] (fun v i wr => ∃ k : Nat, k ≤ S.length ∧ i = .int .i64 k ∧ OwnI 3 w.heap.size wr v (tmsTo S k) ∧ OwnN 42 w.heap.size wr (.slice A1 S.length c1) S ∧ v.ownBlock ≠ (Value.slice A1 S.length c1).ownBlock ∧ Below w.heap.size w wr) (fun _ i _ => S.length - (intOf i).toNat)
  case atStart => exact ⟨0, by omega, rfl, by rw [HZ0.out]; exact ho1, hoS1, hne1, hb01⟩
  case round =>
    clear ho1 hoS1 hne1 hb01
    obtain ⟨k, hk, rfl, hv, hoo, hne, hb⟩ := hrel
    by_cases hlt : k < S.length
    · have hlen := HL.out k
      obtain ⟨g, rfl, _, hgl, hcl, _⟩ := hoo.head (by omega)
      have k1 := (hcl k hlt).1
      have k3 := (hcl k hlt).2
      have hBs : w.heap.size ≤ wr.heap.size := hb.size
      obtain ⟨W, hW⟩ : ∃ W, W = wr.alloc (Obj.cells #[.int .i64 (tm S k), .int .i64 (pt S k)] 42) := ⟨_, rfl⟩
      have hBW : Below wr.heap.size wr W := by rw [hW]; exact (Below.refl _ _).alloc (Nat.le_refl _) _
      have n1 : W.cell? ⟨wr.heap.size, 0, none⟩ = some (.int .i64 (tm S k)) := by rw [hW]; simp [go_sem]
      have n2 : W.cell? ⟨wr.heap.size, 1, none⟩ = some (.int .i64 (pt S k)) := by rw [hW]; simp [go_sem]
      have hv2 := hv.below hBW rfl
      have hoo2 := hoo.below hBW rfl
      have hbW := hb.trans (hBW.mono hBs)
      have hBs2 : w.heap.size ≤ W.heap.size := hbW.size
      obtain ⟨Av, cv, rfl, hcv, hmv, hrv⟩ := hv2.rd
      have HW := Lib.hid hW
      clear hW hBW hcl
      cases hm : meB (tmsTo S k) (tm S k)
      · have HY := Lib.hid (tms_no hm)
        have HM := Lib.hid hm
        clear hm
        go_upto_region 5 with (fail)
        rw [← HW.out]
        go_wp2_with fail
        refine (holdsM_any _ _ _ _ _ hrv (by omega)).mono ?_
        rintro e wz ⟨rfl, rfl⟩
        rw [HM.out]
        go_wp2_with (at_builtin; refine app_int_b rfl _ _ 24 rfl 3 Try.underlying24 (by kernel_rfl) w.heap.size _ (tmsTo S k) (tm S k) hv2 rfl rfl (by omega) hBs2 ?_; intro v' w5 hown5 hb5 hgr5 hvb5)
        have hoo7 := hoo2.keep hgr5 (Or.inr hne.symm)
        have hne7 := ne_blockR hoo2 hne hvb5
        go_roundw
        case rel => exact ⟨k + 1, by omega, by go_num, by rw [HY.out]; exact hown5, hoo7, hne7, hbW.trans hb5⟩
        case measure => simp [intOf]; omega
      · have HY := Lib.hid (tms_yes hm)
        have HM := Lib.hid hm
        clear hm
        go_upto_region 5 with (fail)
        rw [← HW.out]
        go_wp2_with fail
        refine (holdsM_any _ _ _ _ _ hrv (by omega)).mono ?_
        rintro e wz ⟨rfl, rfl⟩
        rw [HM.out]
        go_wp2
        go_roundw
        case rel => exact ⟨k + 1, by omega, by go_num, by rw [HY.out]; exact hv2, hoo2, hne, hbW⟩
        case measure => simp [intOf]; omega
    · obtain rfl : k = S.length := by omega
      go_wp2
      go_ret
      rw [HV.out] at hv
      exact RetI.mk hv hb
attribute [local irreducible] tm pt gt tuneB natB difTo smI tmsL in
set_option maxHeartbeats 1600000 in
theorem impl_Dif (A B : Option Addr) (c d : Nat) (a b : List (Int × Int)) (w : World) (hra : RdN w A a) (hrb : RdN w B b) (hla : a.length ≤ 1000000000) (hlb : b.length ≤ 1000000000) (hA : A = none → c = 0) (hB : B = none → d = 0) :
    Calls Try.prog 14 #[.slice A a.length c, .slice B b.length d] w (RetI 3 w.heap.size (difZ a b) w) := by
  cases h1 : tuneB a
  · have HV := Lib.hid (difZ_no (a := a) (b := b) (by rw [h1]; simp))
    have H1 := Lib.hid h1
    clear h1
    go_enter Try.func14, Try.ntmps14
    go_wp2_with fail
    refine (impl_TuneOk _ _ _ _ hra (by omega)).mono ?_
    rintro e w1 ⟨rfl, hb1⟩
    rw [H1.out]
    go_wp2
    go_ret
    rw [HV.out]
    exact RetI.mk (OwnI.nil0 _ _ _) hb1
  · cases h2 : tuneB b
    · have HV := Lib.hid (difZ_no (a := a) (b := b) (by rw [h2]; simp))
      have H1 := Lib.hid h1
      have H2 := Lib.hid h2
      clear h1 h2
      go_enter Try.func14, Try.ntmps14
      go_wp2_with fail
      refine (impl_TuneOk _ _ _ _ hra (by omega)).mono ?_
      rintro e w1 ⟨rfl, hb1⟩
      rw [H1.out]
      go_wp2_with fail
      refine (impl_TuneOk _ _ _ _ (hrb.below hb1 rfl) (by omega)).mono ?_
      rintro e w2 ⟨rfl, hb2⟩
      rw [H2.out]
      go_wp2
      go_ret
      rw [HV.out]
      exact RetI.mk (OwnI.nil0 _ _ _) (hb1.trans (hb2.mono hb1.size))
    · have HV := Lib.hid (dif_eq h1 h2)
      have H1 := Lib.hid h1
      have H2 := Lib.hid h2
      have hal := tune_len7 h1
      have hbl := tune_len7 h2
      have HZ0 := Lib.hid (show difTo a b (gt (tmsL (a ++ b))) 0 = [] by unfold difTo; rfl)
      have HL := Lib.hid (difTo_len a b (gt (tmsL (a ++ b))))
      have HLA := Lib.hid (fun t => natB_len a t)
      have HLB := Lib.hid (fun t => natB_len b t)
      have hTL : (tmsL (a ++ b)).length ≤ 80 := by have := tmsL_len (a ++ b); rw [List.length_append] at this; omega
      have hab : (a ++ b).length ≤ 1000000 := by rw [List.length_append]; omega
      have HY := Lib.hid (fun (k : Nat) h => dif_yes (a := a) (b := b) (f := gt (tmsL (a ++ b))) (k := k) (smI_iff.1 h))
      have HN := Lib.hid (fun (k : Nat) (h : smI (natB a (gt (tmsL (a ++ b)) k)) (natB b (gt (tmsL (a ++ b)) k)) = false) => dif_no (a := a) (b := b) (f := gt (tmsL (a ++ b))) (k := k) (fun e => by rw [smI_iff.2 e] at h; cases h))
      clear h1 h2
      go_enter Try.func14, Try.ntmps14
      go_wp2_with fail
      refine (impl_TuneOk _ _ _ _ hra (by omega)).mono ?_
      rintro e w1 ⟨rfl, hb1⟩
      rw [H1.out]
      go_wp2_with fail
      refine (impl_TuneOk _ _ _ _ (hrb.below hb1 rfl) (by omega)).mono ?_
      rintro e w2 ⟨rfl, hb2⟩
      rw [H2.out]
      have hb02 := hb1.trans (hb2.mono hb1.size)
      have ho2 := (OwnI.lit0 w2 3).base_le hb02.size
      have hz2 := (OwnI.lit0 w2 3)
      obtain ⟨V, hV⟩ : ∃ V, V = w2.alloc (Obj.cells #[] 3) := ⟨_, rfl⟩
      have hb2V : Below w2.heap.size w2 V := by rw [hV]; exact (Below.refl _ _).alloc (Nat.le_refl _) _
      have hsV : V.heap.size = w2.heap.size + 1 := by rw [hV]; simp
      rw [← hV] at ho2
      have HVV := Lib.hid hV
      have hb0V := hb02.trans (hb2V.mono hb02.size)
      have HSV := Lib.hid hsV
      clear hsV hV hz2 hb2V hb1 hb2
      go_wp2_with fail
      rw [← HVV.out]
      refine (copyNotes_any A c a V (hra.below hb0V rfl) hla hA).mono ?_
      rintro e w3 ⟨A3, c3, rfl, ho3, _, _, _, _, hb3⟩
      have hb03 := hb0V.trans (hb3.mono hb0V.size)
      have ho33 := ho2.below hb3 rfl
      have hs3 := hb3.size
      go_wp2_with (at_builtin; refine app_pairs rfl _ _ 26 rfl 42 Try.underlying26 (by kernel_rfl) V.heap.size _ a b B d ho3 (hrb.below hb03 rfl) rfl rfl (by omega) hs3 hB ?_; intro v' w4 hown4 hb4)
      have hb04 := hb03.trans (hb4.mono hb0V.size)
      have hs0 : w.heap.size ≤ w2.heap.size := hb02.size
      have ho4 := ho33.low hb4 (fun k hk => by have hk' : w2.heap.size = k := Option.some.inj hk; have := HSV.out; omega)
      obtain ⟨A4, c4, he4, _, _, _, hn4, hr4, _⟩ := RetN.mk hown4 (hb3.trans hb4)
      injection he4 with he4
      subst he4
      clear hown4 hb3 hb4 ho3 ho33 ho2
      have hs4 := hb04.size
      go_wp2_with fail
      refine (times_any _ _ _ _ hr4 hab hn4).mono ?_
      rintro e w5 ⟨A5, c5, rfl, hoT, _, _, _, _, hb5⟩
      have hb05 := hb04.trans (hb5.mono hb04.size)
      have ho5 := ho4.below hb5 rfl
      have hw4 : w2.heap.size < w4.heap.size := (ho4.blk w2.heap.size rfl).2
      have hne5 : (Value.slice (some ⟨w2.heap.size, 0, none⟩) 0 0).ownBlock ≠ (Value.slice A5 (tmsL (a ++ b)).length c5).ownBlock := by
        intro h
        have hx := hoT.blk w2.heap.size h.symm
        omega
      have hoT5 := hoT.base_le hs4
      obtain ⟨T, hT⟩ : ∃ T, T = tmsL (a ++ b) := ⟨_, rfl⟩
      rw [← hT] at HV HZ0 HL hTL HY HN hne5 hoT5 ⊢
      clear hT hoT hb5 hr4 ho4
      go_wp2
      go_loopw [5, 23] (fun v i wr => ∃ k : Nat, k ≤ T.length ∧ i = .int .i64 k ∧ OwnI 3 w.heap.size wr v (difTo a b (gt T) k) ∧ OwnI 3 w.heap.size wr (.slice A5 T.length c5) T ∧ v.ownBlock ≠ (Value.slice A5 T.length c5).ownBlock ∧ Below w.heap.size w wr) (fun _ i _ => T.length - (intOf i).toNat)
      case atStart => exact ⟨0, by omega, rfl, by rw [HZ0.out]; exact ho5, hoT5, hne5, hb05⟩
      case round =>
        clear ho5 hoT5 hne5 hb05
        obtain ⟨k, hk, rfl, hv, hoo, hne, hb⟩ := hrel
        by_cases hlt : k < T.length
        · have hlen := HL.out k
          have hoo' := hoo
          obtain ⟨g, rfl, _, hgl, hcl, _⟩ := hoo.head (by omega)
          have k1 := hcl k hlt
          have HYk := Lib.hid (HY.out k)
          have HNk := Lib.hid (HN.out k)
          have hla1 := HLA.out (gt T k)
          have hlb1 := HLB.out (gt T k)
          clear hcl
          go_wp2_with fail
          refine (impl_Nat _ _ _ _ _ (hra.below hb rfl) (by omega)).mono ?_
          rintro e w6 ⟨A6, c6, rfl, _, _, _, _, hr6, hb6⟩
          have hv6 := hv.below hb6 rfl
          have hoo6 := hoo'.below hb6 rfl
          have hb06 := hb.trans (hb6.mono hb.size)
          clear hv hoo hoo' hb hb6 k1
          go_wp2_with fail
          refine (impl_Nat _ _ _ _ _ (hrb.below hb06 rfl) (by omega)).mono ?_
          rintro e w7 ⟨A7, c7, rfl, _, _, _, _, hr7, hb7⟩
          have hr67 := hr6.below hb7 rfl
          have hv7 := hv6.below hb7 rfl
          have hoo7 := hoo6.below hb7 rfl
          have hb07 := hb06.trans (hb7.mono hb06.size)
          have hs7 := hb07.size
          clear hv6 hoo6 hb06 hb7 hr6
          go_wp2_with fail
          refine (sameInts_any _ _ _ _ _ _ _ hr67 hr7 (by omega) (by omega)).mono ?_
          rintro e w8 ⟨rfl, rfl⟩
          cases hs : smI (natB a (gt T k)) (natB b (gt T k))
          · have HE := Lib.hid (HNk.out hs)
            clear hs
            go_wp2_with (at_builtin; refine app_int_b rfl _ _ 24 rfl 3 Try.underlying24 (by kernel_rfl) w.heap.size _ (difTo a b (gt T) k) (gt T k) hv7 rfl rfl (by omega) hs7 ?_; intro v' w9 hown9 hb9 hgr9 hvb9)
            have hoo9 := hoo7.keep hgr9 (Or.inr hne.symm)
            have hne9 := ne_blockR hoo7 hne hvb9
            go_roundw
            case rel => exact ⟨k + 1, by omega, by go_num, by rw [HE.out]; exact hown9, hoo9, hne9, hb07.trans hb9⟩
            case measure => simp [intOf]; omega
          · have HE := Lib.hid (HYk.out hs)
            clear hs
            go_wp2
            go_roundw
            case rel => exact ⟨k + 1, by omega, by go_num, by rw [HE.out]; exact hv7, hoo7, hne, hb07⟩
            case measure => simp [intOf]; omega
        · obtain rfl : k = T.length := by omega
          go_wp2
          go_ret
          rw [HV.out] at hv
          exact RetI.mk hv hb
end Go.Proofs.Ytajlopigpppeaaa
