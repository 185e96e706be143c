/- The walk of the law on FindContour. -/
import Derived.Test.YthgeijgojdmidaaFnd
import Derived.Test.YthgeijgojdmidaaNssM
import Derived.Test.YthgeijgojdmidaaInts
namespace Go.Proofs.Ythgeijgojdmidaa
open Go.ChangeShapes Go.WideShapes Go.ChangeAt Go.RowKit
set_option linter.unusedVariables false
theorem Mid.below {B N : Nat} {w w' : World} (h : Mid B N w w') : Below B w w' := h.1
attribute [local irreducible] totZ nt szZ fndL in
set_option maxHeartbeats 1600000 in
theorem walk_FnExactFindContour (A_0 : Option Addr) (c_0 : Nat) (ls : List (List (Int × Int))) (a_1 : ByteArray) (m0 : Int) (w : World) (hm0 : w.cell? ⟨0, 0, none⟩ = some (.int .i64 m0)) (q_0 : ls.length ≤ c_0 ∧ c_0 ≤ maxLen ∧ RdNS w A_0 ls ∧ True) (q_1 : a_1.size ≤ maxLen) :
    Calls Try.prog 10 #[.slice A_0 ls.length c_0, .string a_1] w fun e w' => e = .returned (.bool true) ∧ Below w.heap.size w w' := by
  obtain ⟨hc_0, hm_0, rd_0, _⟩ := q_0
  have hs_1 := q_1
  unfold maxLen at hs_1
  have h00 : 0 < w.heap.size := World.block_lt_of_cell? w ⟨0, 0, none⟩ hm0
  by_cases hbs : 1048576 < a_1.size
  · go_enter Try.func10, Try.ntmps10
    go_wp2
    go_ret
    exact ⟨rfl, Below.refl _ _⟩
  · by_cases hs : szOk ls 1048576
    · have HZ := Lib.hid (szZ_yes hs)
      have hs2 := hs
      unfold szOk at hs2
      have HNL := Lib.hid (fun k (hk : k < ls.length) => (show (nt ls k).length ≤ 1000000000 by have := nt_le hk; omega))
      obtain ⟨m, hm⟩ : ∃ m : Nat, (1048576 : Int) - ((ls.length : Int) + (totZ ls ls.length : Nat)) = (m : Int) := ⟨(1048576 - (ls.length + totZ ls ls.length)), by omega⟩
      have HM := Lib.hid hm
      have hm2 : m ≤ 1048576 := by omega
      have hls : ls.length ≤ 1048576 := by omega
      have htot : (1 : Int) + 2 * (totZ ls ls.length : Nat) ≤ 100000000 := by omega
      have hL2 : (fndL ls a_1).length ≤ 1048576 := by have := fndL_len ls a_1; omega
      clear hs hs2 hm
      go_enter Try.func10, Try.ntmps10
      go_wp2_with fail
      refine (szNoteSS_any _ _ _ _ _ rd_0 hc_0 hm_0 (by omega)).mono ?_
      rintro e w' ⟨rfl, rfl⟩
      rw [HZ.out, HM.out]
      go_wp2_with fail
      refine (toNoteSS_any _ _ _ _ rd_0 (by omega) HNL.out).mono ?_
      rintro e w1 ⟨A1, c1, rfl, hc1, hm1, hr1, hb1⟩
      have s1 := hb1.size
      go_wp2_with fail
      refine (spec_Find _ _ _ _ _ hr1 (by omega) HNL.out q_1).mono ?_
      rintro e w2 ⟨A2, c2, rfl, ho2, hc2, hmm2, hn2, hr2, hb2⟩
      have s2 := hb2.size
      have hb02 : Below w.heap.size w w2 := hb1.trans (hb2.mono (by omega))
      clear hr1 hb1 hb2
      go_wp2_with fail
      refine (toNoteSSm_any _ _ _ _ (rd_0.below hb02 rfl) (by omega) HNL.out).mono ?_
      rintro e w3 ⟨g3, c3, vs3, rfl, hvl3, hov3, hf3, hd3, hr3, hc3, hm3, hb3⟩
      have s3 := hb3.size
      have hb03 : Below w.heap.size w w3 := hb02.trans (hb3.mono (by omega))
      have HVL3 := Lib.hid hvl3
      have HD3 := Lib.hid hd3
      clear hvl3 hd3
      go_wp2_with fail
      refine (impl_Find _ _ _ _ m0 _ ((hb03.cell (p := ⟨0, 0, none⟩) h00).trans hm0) hr3 (by omega) HNL.out q_1).mono ?_
      rintro e w4 ⟨A4, c4, rfl, ho4, hc4, hm4, hn4, hr4, hb4⟩
      have s4 := hb4.size
      go_wp2_with fail
      refine (eqIntS_same _ _ _ _ (fndL ls a_1) _ hr4 (hr2.upto (show Below w2.heap.size w2 w4 from hb3.trans (hb4.mono (by omega))) (Nat.le_refl _)) (by omega)).mono ?_
      rintro e w5 ⟨rfl, hb5⟩
      have s5 := hb5.size
      have hb05 : Below w.heap.size w w5 := (hb03.trans (hb4.mono (by omega))).trans (hb5.mono (by omega))
      go_wp2_with fail
      refine (toNoteSS_any _ _ _ _ (rd_0.below hb05 rfl) (by omega) HNL.out).mono ?_
      rintro e w6 ⟨A6, c6, rfl, hc6, hm6, hr6, hb6⟩
      have s6 := hb6.size
      have hb36 : Below w3.heap.size w3 w6 := (hb4.trans (hb5.mono (by omega))).trans (hb6.mono (by omega))
      go_wp2_with fail
      refine (eqNoteSS_same _ _ _ _ _ _ (hr3.upto hb36 (Nat.le_refl _)) hr6 (by omega) HNL.out).mono ?_
      rintro e w7 ⟨rfl, hb7⟩
      have s7 := hb7.size
      have hb37 : Below w3.heap.size w3 w7 := hb36.trans (hb7.mono (by omega))
      have hb07 : Below w.heap.size w w7 := (hb05.trans (hb6.mono (by omega))).trans (hb7.mono (by omega))
      have hov7 := hov3.below hb37 rfl
      have hf7 : FilNS 59 (g3 + 1) w7 ls vs3 ls.length := hf3.below hb37
      have hb47 : Below w4.heap.size w4 w7 := (hb5.trans (hb6.mono (by omega))).trans (hb7.mono (by omega))
      have ho47 := ho4.upto hb47 (Nat.le_refl _)
      have hb27 : Below w2.heap.size w2 w7 := hb3.trans (hb37.mono (by omega))
      have HBK := Lib.hid (fun i q (hi : i < ls.length) (hq : obk vs3 i = some q) => (hf3.obk_lt hi hq).2)
      clear hr3 hr6 hov3 hf3
      go_wp2_with fail
      refine (markNoteSS_any _ _ w2.heap.size g3 c3 w3.heap.size ls vs3 1 w7 HVL3.out hov7 hf7 HD3.out HBK.out (by omega) (by omega) htot (by omega)).mono ?_
      rintro e w8 ⟨rfl, hmid⟩
      have hb8 := hmid.below
      have s8 := hb8.size
      have ho8 := ho47.mid hmid (by omega)
      have hb28 : Below w2.heap.size w2 w8 := hb27.trans hmid.1
      have hr28 : RdI w8 A2 (fndL ls a_1) := hr2.upto hb28 (Nat.le_refl _)
      have hb08 : Below w.heap.size w w8 := hb07.trans (hb8.mono (by omega))
      have hk1 : ¬ (1 : Int) + 2 * (totZ ls ls.length : Nat) < 0 := by omega
      clear hmid hov7 hf7
      go_wp2_with fail
      refine (eqIntS_same _ _ _ _ (fndL ls a_1) _ ho8.rdA hr28 (by omega)).mono ?_
      rintro e w9 ⟨rfl, hb9⟩
      have s9 := hb9.size
      have ho9 := ho8.upto hb9 (Nat.le_refl _)
      go_wp2_with fail
      refine (markIntS_any _ _ _ _ _ 1 _ ho9 (by omega) (by omega) (by omega)).mono ?_
      rintro e w10 ⟨rfl, LM, hLL, hMM, hoM, hgM⟩
      have hb10 := ho9.frame hgM (by omega)
      have s10 := hb10.size
      have hLH := Lib.hid hLL
      have hb09 : Below w.heap.size w w10 := (hb08.trans (hb9.mono (by omega))).trans (hb10.mono (by omega))
      have hr210 : RdI w10 A2 (fndL ls a_1) := hr2.upto (show Below w2.heap.size w2 w10 from (hb28.trans (hb9.mono (by omega))).trans (hb10.mono (by omega))) (Nat.le_refl _)
      clear hgM hLL
      go_wp2_with fail
      refine (heldIntS_any _ _ _ _ 1 _ hoM.rdA hLH.out hMM (by omega) (by omega) (by omega)).mono ?_
      rintro e w' ⟨rfl, rfl⟩
      go_wp2_with fail
      refine (toNoteSS_any _ _ _ _ (rd_0.below hb09 rfl) (by omega) HNL.out).mono ?_
      rintro e w11 ⟨A11, c11, rfl, hc11, hm11, hr11, hb11⟩
      have s11 := hb11.size
      have hb011 : Below w.heap.size w w11 := hb09.trans (hb11.mono (by omega))
      go_wp2_with fail
      refine (impl_Find _ _ _ _ m0 _ ((hb011.cell (p := ⟨0, 0, none⟩) h00).trans hm0) hr11 (by omega) HNL.out q_1).mono ?_
      rintro e w12 ⟨A12, c12, rfl, ho12, hc12, hm12, hn12, hr12, hb12⟩
      have s12 := hb12.size
      have hb1012 : Below w10.heap.size w10 w12 := hb11.trans (hb12.mono (by omega))
      go_wp2_with fail
      refine (eqIntS_same _ _ _ _ (fndL ls a_1) _ hr12 (hr210.upto hb1012 (Nat.le_refl _)) (by omega)).mono ?_
      rintro e w13 ⟨rfl, hb13⟩
      have s13 := hb13.size
      go_wp2_with fail
      refine (heldIntS_any _ _ _ _ 1 _ (hoM.rdA.upto (show Below w10.heap.size w10 w13 from hb1012.trans (hb13.mono (by omega))) (Nat.le_refl _)) hLH.out hMM (by omega) (by omega) (by omega)).mono ?_
      rintro e w' ⟨rfl, rfl⟩
      go_wp2_with fail
      go_ret
      exact ⟨rfl, (hb09.trans (hb1012.mono (by omega))).trans (hb13.mono (by omega))⟩
    · have HZ := Lib.hid (szZ_no hs)
      clear hs
      go_enter Try.func10, Try.ntmps10
      go_wp2_with fail
      refine (szNoteSS_any _ _ _ _ _ rd_0 hc_0 hm_0 (by omega)).mono ?_
      rintro e w' ⟨rfl, rfl⟩
      rw [HZ.out]
      go_wp2
      go_ret
      exact ⟨rfl, Below.refl _ _⟩
end Go.Proofs.Ythgeijgojdmidaa
