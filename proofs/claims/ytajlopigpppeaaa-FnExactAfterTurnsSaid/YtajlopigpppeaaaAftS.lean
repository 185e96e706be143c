/- A wear after some turns: the reference. -/
import Derived.Test.YtajlopigpppeaaaAftI
namespace Go.Proofs.Ytajlopigpppeaaa
open Go.ChangeShapes Go.WideShapes Go.ChangeAt Go.RowKit
set_option linter.unusedVariables false
attribute [local irreducible] gt wearB aftV aftL in
set_option maxHeartbeats 3200000 in
theorem spec_After (A : Option Addr) (c : Nat) (l : List Int) (n t : Int) (w : World) (hrd : RdI w A l) (hl : l.length ≤ 1000000000) (hA : A = none → c = 0) :
    Calls Try.prog 42 #[.agg #[.slice A l.length c, .int .i64 n], .int .i64 t] w (RetW 3 w.heap.size (aftL l n t) n w) := by
  obtain ⟨W, hW⟩ : ∃ W, W = (w.alloc (.cells #[.slice A l.length c, .int .i64 n] 56)).alloc (.cells #[.slice none 0 0, .int .i64 0] 56) := ⟨_, rfl⟩
  have hbW : Below w.heap.size w W := by rw [hW]; exact ((Below.refl _ _).alloc (Nat.le_refl _) _).alloc (by simp) _
  have hrdW : RdI W A l := hrd.below hbW rfl
  have hsW : W.heap.size = w.heap.size + 2 := by rw [hW]; simp
  have x1 : W.cell? ⟨w.heap.size, 0, none⟩ = some (.slice A l.length c) := by rw [hW]; simp [go_sem]
  have x2 : W.cell? ⟨w.heap.size, 1, none⟩ = some (.int .i64 n) := by rw [hW]; simp [go_sem]
  have x3 : W.cell? ⟨w.heap.size + 1, 0, none⟩ = some (.slice none 0 0) := by rw [hW]; simp [go_sem]
  have x4 : W.cell? ⟨w.heap.size + 1, 1, none⟩ = some (.int .i64 0) := by rw [hW]; simp [go_sem]
  have f3 : W.frozen? ⟨w.heap.size + 1, 0, none⟩ = false := by rw [hW]; simp [go_sem]
  have f4 : W.frozen? ⟨w.heap.size + 1, 1, none⟩ = false := by rw [hW]; simp [go_sem]
  have HW := Lib.hid hW
  have HSW := Lib.hid hsW
  have q1 : w.heap.size < W.heap.size := by omega
  have q2 : w.heap.size + 1 < W.heap.size := by omega
  clear hW hsW hrd
  have HNO := Lib.hid (fun (h : ¬ aftOk l n t) => aftL_no h)
  have HYES := Lib.hid (fun (L : List Int) (h : aftOk l n t) h1 h2 => aftL_yes (L := L) h h1 h2)
  have HLL := Lib.hid (aftL_len l n t)
  have HRG := Lib.hid (fun (h : aftOk l n t) (i : Nat) hi => aft_rng h (i := i) hi)
  go_enter Try.func42, Try.ntmps42
  go_wp2_with fail
  rw [← HW.out]
  refine (l25Copy_any A c l n W hrdW hl hA).mono ?_
  rintro e w1 ⟨A1, c1, rfl, ho1, hc1, hm1, hn1, hr1, hb1⟩
  obtain ⟨V, hV⟩ : ∃ V, V = w1.alloc (.cells #[.slice A1 l.length c1, .int .i64 n] 56) := ⟨_, rfl⟩
  have hbV : Below w1.heap.size w1 V := by rw [hV]; exact (Below.refl _ _).alloc (Nat.le_refl _) _
  have v1 : V.cell? ⟨w1.heap.size, 0, none⟩ = some (.slice A1 l.length c1) := by rw [hV]; simp [go_sem]
  have v2 : V.cell? ⟨w1.heap.size, 1, none⟩ = some (.int .i64 n) := by rw [hV]; simp [go_sem]
  have vs : w1.heap.size < V.heap.size := by rw [hV]; simp
  have HV := Lib.hid hV
  have hb1s := hb1.size
  have hbWV : Below W.heap.size W V := hb1.trans (hbV.mono hb1s)
  have hoV := ho1.below hbV rfl
  have HBLK := Lib.hid (fun q (hq : (Value.slice A1 l.length c1).ownBlock = some q) => ho1.blk q hq)
  have hvs := hbWV.size
  have t1 := (hbWV.cell (p := ⟨w.heap.size, 0, none⟩) q1).trans x1
  have t2 := (hbWV.cell (p := ⟨w.heap.size, 1, none⟩) q1).trans x2
  have hrdV := hrdW.below hbWV rfl
  clear hV hbV hr1 hb1 ho1 hn1
  go_upto_region 2 with (fail)
  rw [← HV.out]
  go_wp2_with fail
  refine (spec_WearOk _ _ _ _ _ hrdV hl).mono ?_
  rintro e w2 ⟨rfl, hb2⟩
  have hbW2 := hbWV.trans (hb2.mono hvs)
  have ho2 := hoV.below hb2 rfl
  have hb2s := hb2.size
  have z1 := (hbW2.cell (p := ⟨w.heap.size, 0, none⟩) q1).trans x1
  have z2 := (hbW2.cell (p := ⟨w.heap.size, 1, none⟩) q1).trans x2
  have z3 := (hbW2.cell (p := ⟨w.heap.size + 1, 0, none⟩) q2).trans x3
  have z4 := (hbW2.cell (p := ⟨w.heap.size + 1, 1, none⟩) q2).trans x4
  have zf3 := (hbW2.frozen (p := ⟨w.heap.size + 1, 0, none⟩) q2).trans f3
  have zf4 := (hbW2.frozen (p := ⟨w.heap.size + 1, 1, none⟩) q2).trans f4
  have z5 := (hb2.cell (p := ⟨w1.heap.size, 0, none⟩) vs).trans v1
  have z6 := (hb2.cell (p := ⟨w1.heap.size, 1, none⟩) vs).trans v2
  have hbF : Below w.heap.size w w2 := hbW.trans (hbW2.mono (Nat.le_of_lt q1))
  have nlt1 : w.heap.size + 1 < w2.heap.size := by have := hbW2.size; omega
  have nlt2 : w1.heap.size < w2.heap.size := by omega
  have ne1 : w1.heap.size ≠ w.heap.size + 1 := by omega
  have ne2 : w.heap.size + 1 ≠ w1.heap.size := by omega
  have ne3 : w.heap.size + 1 ≠ w.heap.size := by omega
  clear t1 t2 v1 v2 hb2 hoV hbWV
  by_cases hok : aftOk l n t
  · have HOK := Lib.hid hok
    have hok1 := hok.1
    have hok2 := hok.2
    have HB := Lib.hid hok1
    have HT := Lib.hid hok2
    clear hok hok1 hok2
    rw [HB.out]
    go_wp2_with fail
    refine (in_yes _ _ _ _ HT.out).mono ?_
    rintro e wz ⟨rfl, rfl⟩
    go_wp2
    go_loopw [6] (fun i wr => ∃ (k : Nat) (L : List Int), k ≤ l.length ∧ i = .int .i64 k ∧ L.length = l.length ∧ (∀ j, j < l.length → gt L j = if j < k then aftV l n t j else gt l j) ∧ OwnI 3 W.heap.size wr (.slice A1 l.length c1) L ∧ w2.grownBy wr (Value.slice A1 l.length c1).ownBlock) (fun i _ => l.length - (intOf i).toNat)
    case atStart => exact ⟨0, l, by omega, rfl, rfl, fun j hj => by rw [if_neg (by omega)], ho2, World.grownBy.refl _ _⟩
    case round =>
      obtain ⟨k, L, hk, rfl, hL, hM, ho, hg⟩ := hrel
      have HL := Lib.hid hL
      have HM := Lib.hid hM
      have hbr : Below W.heap.size W wr := hbW2.trans (grown_Below hg hbW2.size (fun q hq => (ho.blk q hq).1))
      have hrs := hbr.size
      have hbrF := hbW.trans (hbr.mono (Nat.le_of_lt q1))
      have hne : ∀ q, (Value.slice A1 l.length c1).ownBlock = some q → q ≠ w1.heap.size := fun q hq h => by have := (HBLK.out q hq).2; omega
      have r1 := (hbr.cell (p := ⟨w.heap.size, 0, none⟩) q1).trans x1
      have r2 := (hbr.cell (p := ⟨w.heap.size, 1, none⟩) q1).trans x2
      have r5 : wr.cell? ⟨w1.heap.size, 0, none⟩ = some (.slice A1 l.length c1) := hg.cell z5 (by
        intro h
        exact hne _ h.symm rfl)
      have r6 : wr.cell? ⟨w1.heap.size, 1, none⟩ = some (.int .i64 n) := hg.cell z6 (by
        intro h
        exact hne _ h.symm rfl)
      clear hL hM hne
      by_cases hlt : k < l.length
      · obtain ⟨h1, h2, h3, h4⟩ := HRG.out HOK.out k hlt
        obtain ⟨g, rfl, hgW, hgl, hcg, hfg⟩ := ho.head (by rw [HL.out]; omega)
        have hLk : gt L k = gt l k := by rw [HM.out k hlt, if_neg (by omega)]
        have d1 := hcg k (by rw [HL.out]; exact hlt)
        rw [hLk] at d1
        have df := hfg k
        have h0i : (0 : Int) ≤ (k : Int) := by omega
        have h0j : (k : Int) < (l.length : Int) := by omega
        have HAV := Lib.hid (show aftV l n t k = if gt l k - n * t < 0 then 0 else gt l k - n * t by unfold aftV; rfl)
        obtain ⟨M, hMM⟩ : ∃ M, M = n * t := ⟨_, rfl⟩
        have HAV := HAV.out
        rw [← hMM] at HAV h4
        have hwm : IntKind.i64.wrap (t * n) = M := by rw [hMM]; rw [Int.mul_comm t n]; exact IntWalk.i64_in _ (by omega)
        have hws : IntKind.i64.wrap (gt l k - M) = gt l k - M := IntWalk.i64_in _ (by omega)
        obtain ⟨b, o, rfl, lb, hcA⟩ := hrdW (by omega)
        have d2 := (hbr.cell (p := ⟨b, o + k, none⟩) lb).trans (hcA k hlt)
        have gne1 : g ≠ w1.heap.size := fun h => by have := (HBLK.out g rfl).2; omega
        have HMM := Lib.hid hMM
        clear hcg hfg hcA hMM hLk
        by_cases hneg : ¬ M < gt l k
        · skip
          have hst := ho.stored k (0)
          have HO := Lib.hid hst.1
          have HG := Lib.hid (grown_drew (grown_trans hg hst.2))
          have HV2 := Lib.hid (show aftV l n t k = 0 by rw [HAV]; split <;> omega)
          clear hst HAV
          go_wp2
          go_region
          go_wp2
          go_roundw
          case rel =>
            refine ⟨k + 1, L.set k (0), by omega, by go_num, by rw [List.length_set]; exact HL.out, fun j hj => ?_, HO.out, HG.out⟩
            rw [gt_set _ _ _ _ (by rw [HL.out]; exact hlt)]
            by_cases e : j = k
            · rw [if_pos e, if_pos (by omega), e]; exact HV2.out.symm
            · rw [if_neg e, HM.out j hj]
              by_cases e2 : j < k
              · rw [if_pos e2, if_pos (by omega)]
              · rw [if_neg e2, if_neg (by omega)]
          case measure => simp [intOf]; omega
        · have hneg2 : M < gt l k := by omega
          have hst := ho.stored k (gt l k - M)
          have HO := Lib.hid hst.1
          have HG := Lib.hid (grown_drew (grown_trans hg hst.2))
          have HV2 := Lib.hid (show aftV l n t k = gt l k - M by rw [HAV]; split <;> omega)
          clear hst HAV
          go_wp2
          go_region
          go_wp2
          go_roundw
          case rel =>
            refine ⟨k + 1, L.set k (gt l k - M), by omega, by go_num, by rw [List.length_set]; exact HL.out, fun j hj => ?_, HO.out, HG.out⟩
            rw [gt_set _ _ _ _ (by rw [HL.out]; exact hlt)]
            by_cases e : j = k
            · rw [if_pos e, if_pos (by omega), e]; exact HV2.out.symm
            · rw [if_neg e, HM.out j hj]
              by_cases e2 : j < k
              · rw [if_pos e2, if_pos (by omega)]
              · rw [if_neg e2, if_neg (by omega)]
          case measure => simp [intOf]; omega
      · obtain rfl : k = l.length := by omega
        have r3 := (hbr.cell (p := ⟨w.heap.size + 1, 0, none⟩) q2).trans x3
        have r4 := (hbr.cell (p := ⟨w.heap.size + 1, 1, none⟩) q2).trans x4
        have rf3 := (hbr.frozen (p := ⟨w.heap.size + 1, 0, none⟩) q2).trans f3
        have rf4 := (hbr.frozen (p := ⟨w.heap.size + 1, 1, none⟩) q2).trans f4
        have rlt : w.heap.size + 1 < wr.heap.size := by omega
        have HLV := Lib.hid (HYES.out L HOK.out HL.out (fun j hj => by rw [HM.out j hj, if_pos hj]))
        have HO := Lib.hid ho
        have HBF := Lib.hid hbrF
        clear ho hbrF hbr hg
        go_wp2
        refine bodyPost_ret (v := .agg #[.slice A1 l.length c1, .int .i64 n]) (by simp [results, Try.results42, go_sem, r3, r4]) rfl (RetW.mk (OwnI.base_le (B := W.heap.size) ?_ (Nat.le_of_lt q1)) ?_)
        · rw [← HLV.out]
          exact (HO.out.setBelow (by show w.heap.size + 1 < _; exact q2) _).setBelow (by show w.heap.size + 1 < _; exact q2) _
        · exact (HBF.out.setCell (by show _ ≤ w.heap.size + 1; omega) _).setCell (by show _ ≤ w.heap.size + 1; omega) _
  · have HF := Lib.hid (HNO.out hok)
    have HO := Lib.hid ho2
    have HBF := Lib.hid hbF
    cases hw : wearB l n
    · clear ho2 hbF hbW2 hok
      go_wp2
      refine bodyPost_ret (v := .agg #[.slice A1 l.length c1, .int .i64 n]) (by simp [results, Try.results42, go_sem, z3, z4]) rfl (RetW.mk (OwnI.base_le (B := W.heap.size) ?_ (Nat.le_of_lt q1)) ?_)
      · rw [HF.out]
        exact (HO.out.setBelow (by show w.heap.size + 1 < _; exact q2) _).setBelow (by show w.heap.size + 1 < _; exact q2) _
      · exact (HBF.out.setCell (by show _ ≤ w.heap.size + 1; omega) _).setCell (by show _ ≤ w.heap.size + 1; omega) _
    · have HT := Lib.hid (show ¬ (0 ≤ t ∧ t ≤ 1000) from fun h => hok ⟨hw, h⟩)
      clear ho2 hbF hbW2 hok
      go_wp2_with fail
      refine (in_no _ _ _ _ HT.out).mono ?_
      rintro e wz ⟨rfl, rfl⟩
      go_wp2
      refine bodyPost_ret (v := .agg #[.slice A1 l.length c1, .int .i64 n]) (by simp [results, Try.results42, go_sem, z3, z4]) rfl (RetW.mk (OwnI.base_le (B := W.heap.size) ?_ (Nat.le_of_lt q1)) ?_)
      · rw [HF.out]
        exact (HO.out.setBelow (by show w.heap.size + 1 < _; exact q2) _).setBelow (by show w.heap.size + 1 < _; exact q2) _
      · exact (HBF.out.setCell (by show _ ≤ w.heap.size + 1; omega) _).setCell (by show _ ≤ w.heap.size + 1; omega) _
end Go.Proofs.Ytajlopigpppeaaa
