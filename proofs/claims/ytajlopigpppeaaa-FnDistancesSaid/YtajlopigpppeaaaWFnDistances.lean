/- The walk of FnDistances. -/
import Derived.Test.YtajlopigpppeaaaDstQ
import Derived.Test.YtajlopigpppeaaaTwo
import Derived.Test.YtajlopigpppeaaaNatW
import Derived.Test.YtajlopigpppeaaaDifI
import Derived.Test.YtajlopigpppeaaaArgB
import Derived.Deep.Cut
import Derived.Deep.CutRange
import Derived.Deep.CutBlock
import Derived.Outline
import Derived.Deep.DeepFit
namespace Go.Proofs.Ytajlopigpppeaaa
open Go.ChangeShapes Go.WideShapes Go.ChangeAt Go.RowKit
set_option linter.unusedVariables false
theorem eq_succ2 {p : Nat → Prop} {k : Nat} (h : ∀ i, i < k → p i) (hk : p k) : ∀ i, i < k + 1 → p i := by
  intro i hi
  by_cases e : i = k
  · rw [e]; exact hk
  · exact h i (by omega)
theorem heldX_keep {w v u : World} {b o : Nat} {u1 : Value} (l1 : b < w.heap.size) (h : v.cell? ⟨b, o, none⟩ = some u1 ∧ Below w.heap.size w v) (hb : Below v.heap.size v u) :
    u.cell? ⟨b, o, none⟩ = some u1 ∧ Below w.heap.size w u :=
  ⟨(hb.cell (p := ⟨b, o, none⟩) (Nat.lt_of_lt_of_le l1 h.2.size)).trans h.1, h.2.trans (hb.mono h.2.size)⟩
theorem heldX_bel {w v : World} {b o : Nat} {u1 : Value} (h : v.cell? ⟨b, o, none⟩ = some u1 ∧ Below w.heap.size w v) : Below w.heap.size w v := h.2
theorem near_len {a b c : List (Int × Int)} (ha : a.length ≤ 1000000000) (hb : b.length ≤ 1000000000) (hc : c.length ≤ 1000000000) : ∀ k, k < [b, a, c].length → (nt [b, a, c] k).length ≤ 1000000000 := by
  intro k hk
  have hk3 : k < 3 := hk
  match k, hk3 with
  | 0, _ => exact hb
  | 1, _ => exact ha
  | 2, _ => exact hc
attribute [local irreducible] tm pt gt tuneB disB comB difZ dfN natB smL nearB bacL btZ in
set_option maxHeartbeats 12800000 in
set_option maxRecDepth 100000 in
theorem walk_FnDistances (A : Option Addr) (c : Nat) (l0 : List Int) (w : World) (w0 : l0.length ≤ c ∧ c ≤ maxLen ∧ RdU w A l0.length w.heap.size ∧ True) :
    Calls Try.prog 6 #[.slice A l0.length c] w fun e w' => e = .returned (.bool true) ∧ Below w.heap.size w w' := by
  obtain ⟨_, _, hr, _⟩ := w0
  generalize l0.length = n at *
  by_cases hn : n ≤ 1048576
  · go_enter Try.func6, Try.ntmps6
    go_wp2_with fail
    refine (big_no A n c w hn).mono ?_
    rintro e wz ⟨rfl, rfl⟩
    go_wp2_with fail
    refine (draw_two w A n c hn hr).mono ?_
    rintro e w1 ⟨a, b, A1, B1, c1, d1, hTa, hTb, rfl, hA1, hB1, p1, p2, p3, p4, hra0, hrb0, hb1⟩
    have HTA := Lib.hid hTa
    have HTB := Lib.hid hTb
    have HCA := Lib.hid (And.intro p1 p2)
    have HCB := Lib.hid (And.intro p3 p4)
    have hal := hTa.2.1
    have hbl := hTb.2.1
    clear hr hTa hTb p1 p2 p3 p4
    go_wp2_with fail
    refine (spec_Back A1 c1 a w1 hra0 HTA.out.1).mono ?_
    rintro e w2 ⟨C1, e1, rfl, _, q1, q2, _, hrc, hb2⟩
    have hTc := bac_dr HTA.out
    obtain ⟨g, hg⟩ : ∃ g, g = bacL a := ⟨_, rfl⟩
    rw [← hg] at hTc q1 hrc ⊢
    have HTC := Lib.hid hTc
    have HCC := Lib.hid (And.intro q1 q2)
    have hgl := hTc.2.1
    have hra := hra0.below hb2 rfl
    have hrb := hrb0.below hb2 rfl
    have HB0 := Lib.hid (hb1.trans (hb2.mono hb1.size))
    have HLA := Lib.hid (show a.length ≤ 1000000000 by omega)
    have HLB := Lib.hid (show b.length ≤ 1000000000 by omega)
    have HLG := Lib.hid (show g.length ≤ 1000000000 by omega)
    obtain ⟨D, N, X, Y, ⟨e1', e2, e3, e4, e5, e6, e7, e8⟩, ⟨f1, f10⟩, ⟨g1, g2, g4, g8⟩, hts, ⟨g3, g5, g6, g7, g9, g10, g11, g12⟩⟩ := dst_all HTA.out HTB.out hTc
    have hsm := dst_same HTA.out HTB.out
    rw [e1'] at hsm
    have HSM := Lib.hid hsm
    have E1 := Lib.hid e1'
    have E2 := Lib.hid e2
    have E3 := Lib.hid e3
    have E4 := Lib.hid e4
    have E5 := Lib.hid e5
    have E6 := Lib.hid e6
    have E7 := Lib.hid e7
    have E8 := Lib.hid e8
    have HD0 := Lib.hid f1
    have HD8 := Lib.hid f10
    obtain ⟨t1, t2, t3, t4, t5, t6, t7⟩ := hts
    clear f1 f10
    clear e1' e2 e3 e4 e5 e6 e7 e8 hTc hsm q1 q2 hra0 hrb0 hb1 hb2 hg
    go_wp2_with fail
    refine (impl_Dist A1 B1 c1 d1 a b w2 hra hrb HLA.out HLB.out).mono ?_
    rintro e w3 ⟨rfl, hb3⟩
    rw [E1.out]
    go_wp2_with fail
    refine (impl_Com A1 B1 c1 d1 a b w3 (hra.below hb3 rfl) (hrb.below hb3 rfl) HLA.out HLB.out).mono ?_
    rintro e w4 ⟨rfl, hv⟩
    rw [E3.out]
    have hb4 := hb3.trans (hv.mono hb3.size)
    clear hv
    go_upto_region 7 with fail
    go_cut [121] from 30 (fun x wx => x = .bool false ∧ Below w2.heap.size w2 wx)
    case first =>
      go_wp2_with fail
      refine (impl_Dist B1 A1 d1 c1 b a w4 (hrb.below hb4 rfl) (hra.below hb4 rfl) HLB.out HLA.out).mono ?_
      rintro e w5 ⟨rfl, hv⟩
      rw [E2.out]
      have hb5 := hb4.trans (hv.mono hb4.size)
      clear hv
      go_wp2_with fail
      refine (impl_Com B1 A1 d1 c1 b a w5 (hrb.below hb5 rfl) (hra.below hb5 rfl) HLB.out HLA.out).mono ?_
      rintro e w6 ⟨rfl, hv⟩
      rw [E4.out]
      have hb6 := hb5.trans (hv.mono hb5.size)
      clear hv
      go_wp2_with fail
      refine (impl_Dist A1 C1 c1 e1 a g w6 (hra.below hb6 rfl) (hrc.below hb6 rfl) HLA.out HLG.out).mono ?_
      rintro e w7 ⟨rfl, hv⟩
      rw [E5.out]
      have hb7 := hb6.trans (hv.mono hb6.size)
      clear hv
      go_wp2_with fail
      refine (impl_Dist C1 B1 e1 d1 g b w7 (hrc.below hb7 rfl) (hrb.below hb7 rfl) HLG.out HLB.out).mono ?_
      rintro e w8 ⟨rfl, hv⟩
      rw [E6.out]
      have hb8 := hb7.trans (hv.mono hb7.size)
      clear hv
      go_wp2_with fail
      refine (impl_Dist A1 A1 c1 c1 a a w8 (hra.below hb8 rfl) (hra.below hb8 rfl) HLA.out HLA.out).mono ?_
      rintro e w9 ⟨rfl, hv⟩
      rw [E7.out]
      have hb9 := hb8.trans (hv.mono hb8.size)
      clear hv
      go_wp2_with fail
      refine (impl_Com A1 A1 c1 c1 a a w9 (hra.below hb9 rfl) (hra.below hb9 rfl) HLA.out HLA.out).mono ?_
      rintro e w10 ⟨rfl, hv⟩
      rw [E8.out]
      have hb10 := hb9.trans (hv.mono hb9.size)
      clear hv

      go_wp2_with fail
      go_meet
      case rel => exact ⟨by first | rfl | simp [t1, t2, t3, t4, t5, t6, t7], hb10⟩
    case rest =>
      clear g1 g2 g3 g4 g5 g6 g7 g8 g9 g10 g11 g12 t1 t2 t3 t4 t5 t6 t7
      obtain ⟨rfl, hb⟩ := hcut
      go_upto_block 0 with fail
      go_cut [8, 9] from 127 (fun v i wx => ∃ s : Bool, v = .bool s ∧ (D == 0) = s ∧ Below w2.heap.size w2 wx)
      case first =>
        go_wp2_with fail
        go_loopw [8, 9] (fun v i wr => ∃ (k : Nat) (s : Bool), k ≤ a.length ∧ v = .bool s ∧ i = .int .i64 k ∧ Below w2.heap.size w2 wr ∧ (s = true → a.length = b.length ∧ ∀ j, j < k → pt a j = pt b j) ∧ (s = false → ¬ D = 0)) (fun _ i _ => a.length - (intOf i).toNat)
        case atStart => exact ⟨0, _, by omega, rfl, rfl, hb, (fun h => ⟨by have h2 : (a.length : Int) = (b.length : Int) := (by simpa using h); omega, fun j hj => by omega⟩), (fun h hd => by have := (HSM.out.1 hd).1; simp [this] at h)⟩
        case round =>
          clear hb
          obtain ⟨k, s, hk, rfl, rfl, hb, hs1, hs2⟩ := hrel
          by_cases hlt : k < a.length
          · have h0j : (k : Int) < (a.length : Int) := by omega
            cases s with
            | true =>
              obtain ⟨hll, hall⟩ := hs1 rfl
              have HALL := Lib.hid hall
              have HSAM := HSM.out
              obtain ⟨b1, o1, rfl, lb1, hc1⟩ := hra (by omega)
              obtain ⟨b2, o2, rfl, lb2, hc2⟩ := hrb (by omega)
              have k1 := (hb.cell (p := ⟨b1, o1 + k * 2 + 1, none⟩) lb1).trans (hc1 k hlt).2
              have k2 := (hb.cell (p := ⟨b2, o2 + k * 2 + 1, none⟩) lb2).trans (hc2 k (by omega)).2
              have h0i : (0 : Int) ≤ (k : Int) := by omega
              have h0k : (k : Int) < (b.length : Int) := by omega
              have HLL := Lib.hid hll
              clear hc1 hc2 hs1 hs2 hall hll
              by_cases he : pt a k = pt b k
              · have HE := Lib.hid he
                have he2 : (pt a k == pt b k) = true := by simpa using he
                clear he HSAM
                go_wp2_with fail
                go_quiet (fail)
                go_wp2
                go_roundw
                case rel => exact ⟨k + 1, true, by omega, rfl, by go_num, bel_drewN hb _, (fun _ => ⟨HLL.out, eq_succ2 HALL.out HE.out⟩), (fun h => by cases h)⟩
                case measure => simp [intOf]; omega
              · have hD : ¬ D = 0 := fun h => he ((HSAM.1 h).2 k (by omega))
                have HD := Lib.hid hD
                have he2 : (pt a k == pt b k) = false := by simpa using he
                clear he HSAM hD
                go_wp2_with fail
                go_quiet (fail)
                go_wp2
                go_roundw
                case rel => exact ⟨k + 1, false, by omega, rfl, by go_num, bel_drewN hb _, (fun h => by cases h), (fun _ => HD.out)⟩
                case measure => simp [intOf]; omega
            | false =>
              have HDS := Lib.hid (show (D == 0) = false from beq_eq_false_iff_ne.2 (hs2 rfl))
              clear hs1 hs2
              go_wp2_with fail
              go_meet
              case rel => exact ⟨false, rfl, HDS.out, hb⟩
          · have h0j : ¬ (k : Int) < (a.length : Int) := by omega
            have hDs : (D == 0) = s := by
              cases s with
              | true =>
                obtain ⟨x, y⟩ := hs1 rfl
                exact beq_iff_eq.2 (HSM.out.2 ⟨x, fun j hj => y j (by omega)⟩)
              | false => exact beq_eq_false_iff_ne.2 (hs2 rfl)
            have HDS := Lib.hid hDs
            clear hs1 hs2 hDs
            go_wp2_with fail
            go_meet
            case rel => exact ⟨s, rfl, HDS.out, hb⟩
      case rest =>
        clear hb
        obtain ⟨s, rfl, hDs, hb⟩ := hcut
        have HDS := Lib.hid hDs
        clear hDs
        go_wp2_with fail
        refine (impl_Dif A1 B1 c1 d1 a b wc (hra.below hb rfl) (hrb.below hb rfl) (by omega) (by omega) hA1 hB1).mono ?_
        rintro e v1 ⟨X1, x1, rfl, _, _, _, _, hrx, hv1⟩
        have hxl := difZ_len a b
        have hb1 := hb.trans (hv1.mono hb.size)
        have hra1 := hra.below hb1 rfl
        have hrb1 := hrb.below hb1 rfl
        clear hv1 hb
        go_wp2
        go_loopw [11] (fun i wr => ∃ m : Nat, m ≤ (difZ a b).length ∧ i = .int .i64 m ∧ Below v1.heap.size v1 wr) (fun i _ => (difZ a b).length - (intOf i).toNat)
        case atStart => exact ⟨0, by omega, rfl, Below.refl _ _⟩
        case round =>
          obtain ⟨m, hm, rfl, hbt⟩ := hrel
          by_cases hml : m < (difZ a b).length
          · obtain ⟨xb, xo, rfl, xl, hcx⟩ := hrx (by omega)
            have k1 := (hbt.cell (p := ⟨xb, xo + m, none⟩) xl).trans (hcx m hml)
            have h0i : (0 : Int) ≤ (m : Int) := by omega
            have h0j : (m : Int) < ((difZ a b).length : Int) := by omega
            have HFE := Lib.hid (dif_each HTA.out HTB.out hml)
            obtain ⟨T, hT⟩ : ∃ T, T = gt (difZ a b) m := ⟨_, rfl⟩
            rw [← hT] at k1 HFE
            have hna1 := natB_len a T
            have hnb1 := natB_len b T
            have xl2 : xb < wr.heap.size := Nat.lt_of_lt_of_le xl hbt.size
            have hrat := hra1.below hbt rfl
            have hrbt := hrb1.below hbt rfl
            clear hcx hT
            go_wp2_with fail
            go_region_held3 (fun w' => w'.cell? ⟨xb, xo + m, none⟩ = some (.int .i64 T) ∧ Below wr.heap.size wr w')
              (first | exact ⟨k1, (Below.refl _ _).drew⟩ | exact ⟨k1, Below.refl _ _⟩ | assumption | exact heldX_keep xl2 (by assumption) hba | exact heldX_keep xl2 (by assumption) hbb | exact heldX_keep xl2 (by assumption) hbc)
              ((first
                | (go_at_call 35; go_fit (spec_Nat A1 c1 a T _ (hrat.below (heldX_bel (by assumption)) rfl) (by omega)); rintro e wa ⟨Aa, ca, rfl, _, _, _, _, hna, hba⟩)
                | (go_at_call 35; go_fit (spec_Nat B1 d1 b T _ (hrbt.below (heldX_bel (by assumption)) rfl) (by omega)); rintro e wb ⟨Ab, cb, rfl, _, _, _, _, hnb, hbb⟩)
                | (go_at_call 34; go_fit (sameL_any _ _ _ _ (natB a T) (natB b T) _ (by first | assumption | exact RdI.below (by assumption) hbb rfl) (by first | assumption | exact RdI.below (by assumption) hba rfl) (by omega) (by omega)); rintro e wc ⟨rfl, hbc⟩; rw [HFE.out])))
            have hbx := hbt.trans ((heldX_bel (by assumption)).mono hbt.size)
            go_wp2
            go_roundw
            case rel => exact ⟨m + 1, by omega, by go_num, hbx⟩
            case measure => simp [intOf]; omega
          · have h0j : ¬ (m : Int) < ((difZ a b).length : Int) := by omega
            have hb2 := hb1.trans (hbt.mono hb1.size)
            clear hb1 hbt hra1 hrb1 hrx hm hml
            go_wp2
            go_loopw [12, 13] (fun v i wr => ∃ m : Nat, m ≤ 16 ∧ v = .int .i64 (dfN a b m) ∧ i = .int .i64 m ∧ Below w2.heap.size w2 wr) (fun _ i _ => 16 - (intOf i).toNat)
            case atStart => exact ⟨0, by omega, by rw [dfN_zero], rfl, hb2⟩
            case round =>
              clear hb2
              obtain ⟨m, hm, rfl, rfl, hbt⟩ := hrel
              by_cases hml : m < 16
              · have h0j : (m : Int) < 16 := by omega
                have hna1 := natB_len a (m : Int)
                have hnb1 := natB_len b (m : Int)
                have hdr := dfN_rng a b m
                have HDF := Lib.hid (dfN_succ a b m)
                have hdr2 := dfN_rng a b (m + 1)
                go_wp2_with fail
                refine (spec_Nat A1 c1 a (m : Int) wr (hra.below hbt rfl) (by omega)).mono ?_
                rintro e u1 ⟨Aa, ca, rfl, _, _, _, _, hna, hu1⟩
                have hbu1 := hbt.trans (hu1.mono hbt.size)
                go_wp2_with fail
                refine (spec_Nat B1 d1 b (m : Int) u1 (hrb.below hbu1 rfl) (by omega)).mono ?_
                rintro e u2 ⟨Ab, cb, rfl, _, _, _, _, hnb, hu2⟩
                have hbu2 := hbu1.trans (hu2.mono hbu1.size)
                go_wp2_with fail
                refine (sameL_any Aa Ab ca cb (natB a (m : Int)) (natB b (m : Int)) u2 (hna.below hu2 rfl) hnb (by omega) (by omega)).mono ?_
                rintro e u3 ⟨rfl, hu3⟩
                have hbu3 := hbu2.trans (hu3.mono hbu2.size)
                obtain ⟨z, hz⟩ : ∃ z, z = smL (natB a (m : Int)) (natB b (m : Int)) := ⟨_, rfl⟩
                rw [← hz] at HDF ⊢
                clear hz hu1 hu2 hu3 hbu1 hbu2 hna hnb hbt
                go_wp2_with fail
                refine (btoi_any _ u3).mono ?_
                rintro e vz ⟨rfl, rfl⟩
                have hww : wrap64 (dfN a b m + btZ (!z)) = dfN a b (m + 1) := by rw [← HDF.out]; unfold wrap64; omega
                go_wp2
                go_roundw
                case rel => exact ⟨m + 1, by omega, congrArg (Value.int IntKind.i64) hww, by go_num, hbu3⟩
                case measure => simp [intOf]; omega
              · obtain rfl : m = 16 := by omega
                have h0j : ¬ ((16 : Nat) : Int) < 16 := by omega
                have HDA := Lib.hid (dfN_all HTA.out HTB.out)
                have HSE := Lib.hid (dif_self HTA.out)
                have HNE := Lib.hid (near_law HTA.out HTB.out HTC.out)
                obtain ⟨F, hF⟩ : ∃ F, F = dfN a b 16 := ⟨_, rfl⟩
                rw [← hF] at HDA ⊢
                clear hF
                have hra5 := hra.below hbt rfl
                have hrb5 := hrb.below hbt rfl
                have hrc5 := hrc.below hbt rfl
                go_upto_region 25 with (fail)
                go_wp2_with fail
                have hb3 := Lib.hid (hbt.alloc hbt.size (.cells #[.slice B1 b.length d1, .slice A1 a.length c1, .slice C1 g.length e1] 26))
                refine (impl_Near (some ⟨wr.heap.size, 0, none⟩) A1 3 c1 [b, a, g] a _ (rd_three 26 hrb5 hra5 hrc5 HCB.out.1 HCB.out.2 HCA.out.1 HCA.out.2 HCC.out.1 HCC.out.2) (hra.below hb3.out rfl) (by simp) (by omega) (near_len (by omega) (by omega) (by omega))).mono ?_
                rintro e u1 ⟨rfl, hu1⟩
                rw [HNE.out, E2.out]
                have hb4 := hb3.out.trans (hu1.mono hb3.out.size)
                clear hu1 hra5 hrb5 hrc5 hbt
                have hdl : ((((difZ a b).length : Nat) : Int) == F) = true := beq_iff_eq.2 HDA.out
                have HV1 := Lib.hid (show (decide (0 ≤ disB a b) && decide (disB a b ≤ D)) = true by rw [E1.out, decide_eq_true HD0.out, decide_eq_true (Int.le_refl D)]; rfl)
                have HV2 := Lib.hid (show (decide (0 ≤ disB a b) && decide (disB a b ≤ D - 1)) = false by rw [E1.out, decide_eq_false (show ¬ D ≤ D - 1 by omega)]; simp)
                have hwd : wrap64 (D - 1) = D - 1 := by have := HD0.out; have := HD8.out; unfold wrap64; omega
                cases hs : (D == 0)
                · have hs0 : ¬ D = 0 := beq_eq_false_iff_ne.1 hs
                  have hsE := HDS.out
                  rw [hs] at hsE
                  first | subst hsE | cases hsE
                  rw [if_neg hs0]
                  have hs1 : decide (D = 0) = false := decide_eq_false hs0
                  clear hs0
                  go_wp2_with fail
                  refine (impl_Dif A1 A1 c1 c1 a a u1 (hra.below hb4 rfl) (hra.below hb4 rfl) (by omega) (by omega) hA1 hA1).mono ?_
                  rintro e u2 ⟨X2, x2, rfl, _, _, _, _, _, hu2⟩
                  rw [HSE.out]
                  have hb5 := hb4.trans (hu2.mono hb4.size)
                  clear hu2 hb4
                  go_wp2_with fail
                  refine (impl_Vari A1 B1 c1 d1 a b D u2 (hra.below hb5 rfl) (hrb.below hb5 rfl) (by omega) (by omega)).mono ?_
                  rintro e u3 ⟨rfl, hu3⟩
                  rw [HV1.out]
                  have hb6 := hb5.trans (hu3.mono hb5.size)
                  clear hu3 hb5
                  go_wp2_with fail
                  refine (impl_Vari A1 B1 c1 d1 a b (D - 1) u3 (hra.below hb6 rfl) (hrb.below hb6 rfl) (by omega) (by omega)).mono ?_
                  rintro e u4 ⟨rfl, hu4⟩
                  rw [HV2.out]
                  have hb7 := Lib.hid (HB0.out.trans ((hb6.trans (hu4.mono hb6.size)).mono HB0.out.size))
                  clear hu4 hb6
                  go_wp2
                  go_ret
                  exact ⟨rfl, hb7.out⟩
                · have hs0 : D = 0 := beq_iff_eq.1 hs
                  have hsE := HDS.out
                  rw [hs] at hsE
                  first | subst hsE | cases hsE
                  rw [if_pos hs0]
                  have hs1 : decide (D = 0) = true := decide_eq_true hs0
                  clear hs0
                  go_wp2_with fail
                  refine (impl_Dif A1 A1 c1 c1 a a u1 (hra.below hb4 rfl) (hra.below hb4 rfl) (by omega) (by omega) hA1 hA1).mono ?_
                  rintro e u2 ⟨X2, x2, rfl, _, _, _, _, _, hu2⟩
                  rw [HSE.out]
                  have hb5 := hb4.trans (hu2.mono hb4.size)
                  clear hu2 hb4
                  go_wp2_with fail
                  refine (impl_Vari A1 B1 c1 d1 a b D u2 (hra.below hb5 rfl) (hrb.below hb5 rfl) (by omega) (by omega)).mono ?_
                  rintro e u3 ⟨rfl, hu3⟩
                  rw [HV1.out]
                  have hb6 := hb5.trans (hu3.mono hb5.size)
                  clear hu3 hb5
                  go_wp2_with fail
                  refine (impl_Vari A1 B1 c1 d1 a b (D - 1) u3 (hra.below hb6 rfl) (hrb.below hb6 rfl) (by omega) (by omega)).mono ?_
                  rintro e u4 ⟨rfl, hu4⟩
                  rw [HV2.out]
                  have hb7 := Lib.hid (HB0.out.trans ((hb6.trans (hu4.mono hb6.size)).mono HB0.out.size))
                  clear hu4 hb6
                  go_wp2
                  go_ret
                  exact ⟨rfl, hb7.out⟩
  · go_enter Try.func6, Try.ntmps6
    go_wp2_with fail
    refine (big_yes A n c w hn).mono ?_
    rintro e wz ⟨rfl, rfl⟩
    go_wp2
    go_ret
    exact ⟨rfl, Below.refl _ _⟩
end Go.Proofs.Ytajlopigpppeaaa
