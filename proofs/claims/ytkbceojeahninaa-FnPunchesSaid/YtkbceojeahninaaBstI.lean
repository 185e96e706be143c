/- The best order: the program. -/
import Derived.Test.YtkbceojeahninaaBst
import Derived.Test.YtkbceojeahninaaNxW
import Derived.Deep.LoopGhost
namespace Go.Proofs.Ytkbceojeahninaa
open Go.ChangeShapes Go.WideShapes Go.ChangeAt Go.RowKit
set_option linter.unusedVariables false
def RetG (e B n : Nat) (L : List Int) (w : World) (en : Ending) (w' : World) : Prop :=
  ∃ g c, en = .returned (.slice (some ⟨g, 0, none⟩) n c) ∧ OwnI e B w' (.slice (some ⟨g, 0, none⟩) n c) L ∧ Below B w w'
attribute [local irreducible] rngI in
theorem upToR_any (n : Nat) (w : World) (hn : n ≤ 1000000) :
    Calls Try.prog 72 #[.int .i64 n] w (RetG 3 w.heap.size n (rngI n) w) := by
  have HZ := Lib.hid (show rngI 0 = [] by unfold rngI; rfl)
  have HLN := Lib.hid rngI_len
  go_enter Try.func72, Try.ntmps72
  go_wp2
  go_loopw [3, 4] (fun v i wr => ∃ (k g c : Nat), k ≤ n ∧ v = .slice (some ⟨g, 0, none⟩) k c ∧ i = .int .i64 k ∧ OwnI 3 w.heap.size wr (.slice (some ⟨g, 0, none⟩) k c) (rngI k) ∧ Below w.heap.size w wr) (fun _ i _ => n - (intOf i).toNat)
  case atStart => exact ⟨0, w.heap.size, 0, by omega, rfl, rfl, by rw [HZ.out]; exact OwnI.lit0 _ _, (Below.refl _ _).alloc (Nat.le_refl _) _⟩
  case round =>
    obtain ⟨k, g, c, hk, rfl, rfl, hown, hb⟩ := hrel
    have hBs := hb.size
    by_cases hlt : k < n
    · have HS := Lib.hid (rngI_succ k)
      have hgl : (rngI k).length ≤ 1000000000 := by rw [rngI_len]; omega
      go_wp2_with (at_builtin; refine app_int rfl _ _ 24 rfl 3 Try.underlying24 (by kernel_rfl) w.heap.size _ (rngI k) (k : Int) hown rfl rfl hgl hBs ?_; intro v' w1 hown1 hb1)
      rw [← HS.out] at hown1
      obtain ⟨A1, c1, rfl, _, _, _⟩ := hown1.rd
      obtain ⟨g1, rfl, _⟩ := hown1.head (by rw [HLN.out]; omega)
      rw [HLN.out] at hown1
      rw [HLN.out]
      have hb01 := hb.trans hb1
      go_roundw
      case rel => exact ⟨k + 1, g1, c1, by omega, rfl, by go_num, hown1, hb01⟩
      case measure => simp [intOf]; omega
    · obtain rfl : k = n := by omega
      go_wp2
      go_ret
      exact ⟨g, c, rfl, hown, hb⟩
theorem perm_prm {n : Nat} {p : List Int} (h : p.Perm (rngI n)) : prmB p n = true := by
  have hl : p.length = n := by rw [h.length_eq, rngI_len]
  have hn : p.Nodup := h.nodup_iff.2 (asc_nodupI (rngI_asc n))
  refine prm_yes hl fun i hi => ⟨rngI_mem.1 (h.mem_iff.1 (gt_mem.2 ⟨i, hi, rfl⟩)), fun j hj e => ?_⟩
  rw [gt_get (by omega), gt_get hi] at e
  have := (List.getElem_inj (h₀ := by omega) (h₁ := hi) hn).1 e
  omega
theorem fst1_yes {F : List Int → Int} {st : List Int × Int} {p : List Int} (h : F p < st.2) : fst1 F st p = (p, F p) := if_pos (Or.inr h)
theorem fst1_no {F : List Int → Int} {st : List Int × Int} {p : List Int} (h0 : 0 ≤ st.2) (h : ¬ F p < st.2) : fst1 F st p = st := if_neg (fun hh => hh.elim (fun h1 => by omega) h)
theorem sg_none {p : List Int} {rest : List (List Int)} (h : sg (p :: rest) none) (hn : nxt p = none) : rest = [] := by
  cases rest with
  | nil => rfl
  | cons q r => have := h.1; rw [hn] at this; cases this
theorem sg_some {p p' : List Int} {rest : List (List Int)} (h : sg (p :: rest) none) (hn : nxt p = some p') : ∃ r, rest = p' :: r ∧ sg (p' :: r) none := by
  cases rest with
  | nil => have h' : nxt p = none := h; rw [hn] at h'; cases h'
  | cons q r =>
    have h1 := h.1
    rw [hn] at h1
    injection h1 with h1
    subst h1
    exact ⟨r, rfl, h.2⟩
/-- What the loop knows: p now, rest to come, the best so far. -/
def BstRel (s t : Int) (P : List (Int × Int)) (n k : Nat) (p : List Int) (st : List Int × Int) : Prop :=
  ∃ rest, k = rest.length ∧ sg (p :: rest) none ∧ (∀ q ∈ p :: rest, q.Perm (rngI n)) ∧ rest.foldl (fst1 (cosF s P)) st = fm (cosF s P) (PM n (rngI n)) ∧ 0 ≤ st.2
theorem bst_start {s t : Int} {P : List (Int × Int)} (h : cylB s t P = true) : ∃ k, BstRel s t P P.length k (rngI P.length) (rngI P.length, cosF s P (rngI P.length)) := by
  obtain ⟨h1, h2, h3⟩ := PM_ok P.length (rngI P.length) (rngI_asc _) (rngI_len _)
  obtain ⟨M, hM⟩ := head_cons h2
  refine ⟨M.length, M, rfl, by rw [← hM]; exact h1, fun q hq => PM_perm _ _ _ (by rw [hM]; exact hq) (rngI_len _), ?_, cos_pos h fun x hx => rngI_mem.1 hx⟩
  rw [hM]
  unfold fm
  rw [List.foldl_cons]
  have e : fst1 (cosF s P) ([], -1) (rngI P.length) = (rngI P.length, cosF s P (rngI P.length)) := if_pos (Or.inl (by show (-1 : Int) < 0; omega))
  rw [e]
theorem bst_end {s t : Int} {P : List (Int × Int)} {k : Nat} {p : List Int} {st : List Int × Int} (h : BstRel s t P P.length k p st) (hn : nxt p = none) : st = fm (cosF s P) (PM P.length (rngI P.length)) := by
  obtain ⟨rest, _, h1, _, h2, _⟩ := h
  rw [sg_none h1 hn] at h2
  exact h2
theorem bst_step {s t : Int} {P : List (Int × Int)} {k : Nat} {p p' : List Int} {st : List Int × Int} (hc : cylB s t P = true) (h : BstRel s t P P.length k p st) (hn : nxt p = some p') : p'.Perm (rngI P.length) ∧ ∃ k', k' < k ∧ BstRel s t P P.length k' p' (fst1 (cosF s P) st p') := by
  obtain ⟨rest, hk, h1, h2, h3, h4⟩ := h
  obtain ⟨r, rfl, h5⟩ := sg_some h1 hn
  have hp := h2 p' (by simp)
  refine ⟨hp, r.length, by rw [hk]; simp, r, rfl, h5, fun q hq => h2 q (by rw [List.mem_cons]; exact Or.inr hq), h3, ?_⟩
  unfold fst1
  split
  · exact cos_pos hc fun x hx => rngI_mem.1 (hp.mem_iff.1 hx)
  · exact h4
theorem bst_perm {s t : Int} {P : List (Int × Int)} {n k : Nat} {p : List Int} {st : List Int × Int} (h : BstRel s t P n k p st) : p.Perm (rngI n) := by
  obtain ⟨rest, _, _, h2, _⟩ := h
  exact h2 p (by simp)
theorem perm_len {n : Nat} {p : List Int} (h : p.Perm (rngI n)) : p.length = n := by rw [h.length_eq, rngI_len]
theorem perm_nodup {n : Nat} {p : List Int} (h : p.Perm (rngI n)) : p.Nodup := h.nodup_iff.2 (asc_nodupI (rngI_asc n))
theorem perm_way {s t : Int} {P : List (Int × Int)} {p : List Int} (hc : cylB s t P = true) (h : p.Perm (rngI P.length)) : wayZ s t P p = cosF s P p := way_yes hc (perm_prm h)
theorem bst_pos {s t : Int} {P : List (Int × Int)} {n k : Nat} {p : List Int} {st : List Int × Int} (h : BstRel s t P n k p st) : 0 ≤ st.2 := by
  obtain ⟨rest, _, _, _, _, h2⟩ := h
  exact h2
attribute [local irreducible] tm pt gt cylB nxt cosF wayZ rngI bstL bstB BstRel fm PM fst1 in
set_option maxHeartbeats 3200000 in
theorem impl_Best (s t : Int) (A : Option Addr) (c : Nat) (P : List (Int × Int)) (w : World) (hrd : RdN w A P) (hP : P.length ≤ 1000000000) :
    Calls Try.prog 37 #[.agg #[.int .i64 s, .int .i64 t, .slice A P.length c]] w (RetIB 3 w.heap.size (bstL s t P) (bstB s t P) w) := by
  obtain ⟨W0, hW0⟩ : ∃ W, W = w.alloc (.cells #[.int .i64 s, .int .i64 t, .slice A P.length c] 56) := ⟨_, rfl⟩
  have hb0 : Below w.heap.size w W0 := by rw [hW0]; exact (Below.refl _ _).alloc (Nat.le_refl _) _
  have s0 : w.heap.size < W0.heap.size := by rw [hW0]; simp
  have a0 : W0.cell? ⟨w.heap.size, 0, none⟩ = some (.int .i64 s) := by rw [hW0]; simp [go_sem]
  have a1 : W0.cell? ⟨w.heap.size, 1, none⟩ = some (.int .i64 t) := by rw [hW0]; simp [go_sem]
  have a2 : W0.cell? ⟨w.heap.size, 2, none⟩ = some (.slice A P.length c) := by rw [hW0]; simp [go_sem]
  have hrd0 := hrd.below hb0 rfl
  have HW0 := Lib.hid hW0
  clear hW0 hrd
  cases hC : cylB s t P
  · have HF := Lib.hid (bst_no (s := s) (t := t) (P := P) (by rw [hC]; simp))
    have HC := Lib.hid hC
    clear hC
    go_enter Try.func37, Try.ntmps37
    go_wp2_with fail
    rw [← HW0.out]
    refine (impl_CylOk _ _ _ _ _ _ hrd0 hP).mono ?_
    rintro e w1 ⟨rfl, hb1⟩
    rw [HC.out]
    have hbF := hb0.trans (hb1.mono (Nat.le_of_lt s0))
    go_wp2
    go_ret2
    rw [HF.out.1, HF.out.2]
    exact RetIB.mk (OwnI.nil0 _ _ _) hbF
  · by_cases h7 : P.length ≤ 7
    · have HF := Lib.hid (bst_yes ⟨hC, h7⟩)
      have HC := Lib.hid hC
      have HST := Lib.hid (bst_start hC)
      have HEND := Lib.hid (fun (k : Nat) (p : List Int) (st : List Int × Int) h hn => bst_end (s := s) (t := t) (P := P) (k := k) (p := p) (st := st) h hn)
      have HSTEP := Lib.hid (fun (k : Nat) (p p' : List Int) (st : List Int × Int) h hn => bst_step (s := s) (t := t) (P := P) (k := k) (p := p) (p' := p') (st := st) hC h hn)
      have HWY := Lib.hid (fun (p : List Int) h => perm_way (s := s) (t := t) (P := P) (p := p) hC h)
      have HRL := Lib.hid (rngI_len P.length)
      have h7i : (P.length : Int) ≤ 7 := by omega
      have h7d : decide ((7 : Int) < (P.length : Int)) = false := decide_eq_false (by omega)
      clear hC
      go_enter Try.func37, Try.ntmps37
      go_wp2_with fail
      rw [← HW0.out]
      refine (impl_CylOk _ _ _ _ _ _ hrd0 hP).mono ?_
      rintro e w1 ⟨rfl, hb1⟩
      rw [HC.out]
      have e2 := (hb1.cell (p := ⟨w.heap.size, 2, none⟩) s0).trans a2
      go_wp2_with fail
      refine (upToR_any P.length w1 (by omega)).mono ?_
      rintro e w2 ⟨g, c2, rfl, ho2, hb2⟩
      have hb02 := hb1.trans (hb2.mono hb1.size)
      have ho2' := ho2.base_le hb1.size
      clear e2
      go_wp2_with fail
      have hci := copyInts_any (some ⟨g, 0, none⟩) c2 (rngI P.length) w2 ho2.rdA (by rw [HRL.out]; omega) (by simp)
      rw [HRL.out] at hci
      refine hci.mono ?_
      rintro e w3 ⟨A3, c3, rfl, ho3, _, _, _, hr3, hb3⟩
      have hb03 := hb02.trans (hb3.mono hb02.size)
      have ho23 := ho2'.below hb3 rfl
      have hg2 : g < w2.heap.size := (ho2.blk g rfl).2
      have hne3 : (Value.slice A3 (rngI P.length).length c3).ownBlock ≠ some g := by
        intro h
        have := (ho3.blk g h).1
        omega
      have ho33 := ho3.base_le hb02.size
      have e0 := (hb03.cell (p := ⟨w.heap.size, 0, none⟩) s0).trans a0
      have e1 := (hb03.cell (p := ⟨w.heap.size, 1, none⟩) s0).trans a1
      have e2 := (hb03.cell (p := ⟨w.heap.size, 2, none⟩) s0).trans a2
      have hrd3 := hrd0.below hb03 rfl
      clear hci
      go_wp2_with fail
      refine (impl_Way s t A A3 c c3 P (rngI P.length) w3 hrd3 hr3 hP (by rw [HRL.out]; omega)).mono ?_
      rintro e w4 ⟨rfl, hb4⟩
      have hb04 := hb03.trans (hb4.mono hb03.size)
      have ho24 := ho23.below hb4 rfl
      have ho34 := ho33.below hb4 rfl
      have HW1 := Lib.hid (HWY.out (rngI P.length) (List.Perm.refl _))
      rw [HW1.out]
      obtain ⟨k0, hst0⟩ := HST.out
      have HST0 := Lib.hid hst0
      clear hst0 e0 e1 e2 hr3 hrd3 ho2 ho2' ho23 ho3 ho33 hb3 hb4 hb2 hb02 hb03
      go_wp2
      go_loopg [5, 6] k0 (fun k b z wr => ∃ (p : List Int) (st : List Int × Int) (A5 : Option Addr) (c5 : Nat), BstRel s t P P.length k p st ∧ b = .slice A5 st.1.length c5 ∧ z = .int .i64 st.2 ∧ OwnI 3 W0.heap.size wr (.slice (some ⟨g, 0, none⟩) P.length c2) p ∧ OwnI 3 W0.heap.size wr (.slice A5 st.1.length c5) st.1 ∧ (Value.slice A5 st.1.length c5).ownBlock ≠ some g ∧ Below W0.heap.size W0 wr)
      case atStart => exact ⟨rngI P.length, (rngI P.length, cosF s P (rngI P.length)), A3, c3, HST0.out, rfl, rfl, ho24, ho34, hne3, hb04⟩
      case round =>
        clear ho24 ho34 hne3 hb04
        obtain ⟨p, st, A5, c5, hrel, rfl, rfl, hop, hob, hne, hb⟩ := hrel
        have HREL := Lib.hid hrel
        have HPP := Lib.hid (bst_perm hrel)
        have HLP := Lib.hid (perm_len (bst_perm hrel))
        have hbs := hb.size
        have hgW := (hop.blk g rfl).1
        have HPOS := Lib.hid (bst_pos hrel)
        clear hrel
        go_wp2_with fail
        have hnx := next_any 3 W0.heap.size g c2 p wr (by rw [HLP.out]; exact hop) (by rw [HLP.out]; omega) (perm_nodup HPP.out)
        rw [HLP.out] at hnx
        refine hnx.mono ?_
        rintro e w5 ⟨rfl, ho5, hg5⟩
        have hob5 := hob.keep hg5 (Or.inr hne)
        have hb05 : Below W0.heap.size W0 w5 := hb.trans (grown_Below hg5 hbs (fun k hk => by injection hk with hk; omega))
        clear hnx hop hob hb hg5
        cases hnp : nxt p with
        | none =>
          have HE := Lib.hid (HEND.out _ _ _ HREL.out hnp)
          have hbF := hb0.trans (hb05.mono (Nat.le_of_lt s0))
          have hobF := hob5.base_le (Nat.le_of_lt s0)
          clear hnp ho5
          go_wp2
          go_ret2
          rw [HF.out.1, HF.out.2, ← HE.out]
          exact RetIB.mk hobF hbF
        | some p' =>
          rw [hnp] at ho5
          obtain ⟨hp1, k1, hk1, hrel1⟩ := HSTEP.out _ _ _ _ HREL.out hnp
          have HP1 := Lib.hid hp1
          have HR1 := Lib.hid hrel1
          have HL1 := Lib.hid (perm_len hp1)
          have HWP := Lib.hid (HWY.out p' hp1)
          have ho5' : OwnI 3 W0.heap.size w5 (.slice (some ⟨g, 0, none⟩) P.length c2) p' := ho5
          have e0 := (hb05.cell (p := ⟨w.heap.size, 0, none⟩) s0).trans a0
          have e1 := (hb05.cell (p := ⟨w.heap.size, 1, none⟩) s0).trans a1
          have e2 := (hb05.cell (p := ⟨w.heap.size, 2, none⟩) s0).trans a2
          have hgs5 := (ho5'.blk g rfl).2
          clear hnp hp1 hrel1 ho5
          go_wp2_with fail
          have hwc := impl_Way s t A (some ⟨g, 0, none⟩) c c2 P p' w5 (hrd0.below hb05 rfl) ho5'.rdA hP (by rw [HL1.out]; omega)
          rw [HL1.out] at hwc
          refine hwc.mono ?_
          rintro e w6 ⟨rfl, hb6⟩
          rw [HWP.out]
          have hb06 := hb05.trans (hb6.mono hb05.size)
          have ho6 := ho5'.below hb6 rfl
          have hob6 := hob5.below hb6 rfl
          clear hwc e0 e1 e2 ho5' hob5 hb05 hb6
          by_cases hlt : cosF s P p' < st.2
          · have HS := Lib.hid (fst1_yes (F := cosF s P) (st := st) hlt)
            go_wp2_with fail
            have hci := copyInts_any (some ⟨g, 0, none⟩) c2 p' w6 ho6.rdA (by rw [HL1.out]; omega) (by simp)
            rw [HL1.out] at hci
            refine hci.mono ?_
            rintro e w7 ⟨A7, c7, rfl, ho7, _, _, _, _, hb7⟩
            have hb07 := hb06.trans (hb7.mono hb06.size)
            have ho67 := ho6.below hb7 rfl
            have ho77 := ho7.base_le hb06.size
            have hg6 : g < w6.heap.size := (ho6.blk g rfl).2
            have hne7 : (Value.slice A7 p'.length c7).ownBlock ≠ some g := by
              intro h
              have := (ho7.blk g h).1
              omega
            clear hci
            go_wp2
            go_roundg k1
            case rel => exact ⟨p', (p', cosF s P p'), A7, c7, by rw [← HS.out]; exact HR1.out, rfl, rfl, ho67, ho77, hne7, hb07⟩
            case measure => exact hk1
          · have HS := Lib.hid (fst1_no (F := cosF s P) HPOS.out hlt)
            go_wp2
            go_roundg k1
            case rel => exact ⟨p', st, A5, c5, by have h := HR1.out; rw [HS.out] at h; exact h, rfl, rfl, ho6, hob6, hne, hb06⟩
            case measure => exact hk1
    · have HF := Lib.hid (bst_no (s := s) (t := t) (P := P) (fun h => h7 h.2))
      have HC := Lib.hid hC
      have h7i : (7 : Int) < (P.length : Int) := by omega
      have h7d : decide ((7 : Int) < (P.length : Int)) = true := decide_eq_true (by omega)
      clear hC
      go_enter Try.func37, Try.ntmps37
      go_wp2_with fail
      rw [← HW0.out]
      refine (impl_CylOk _ _ _ _ _ _ hrd0 hP).mono ?_
      rintro e w1 ⟨rfl, hb1⟩
      rw [HC.out]
      have e2 := (hb1.cell (p := ⟨w.heap.size, 2, none⟩) s0).trans a2
      have hbF := hb0.trans (hb1.mono (Nat.le_of_lt s0))
      go_wp2
      go_ret2
      rw [HF.out.1, HF.out.2]
      exact RetIB.mk (OwnI.nil0 _ _ _) hbF
end Go.Proofs.Ytkbceojeahninaa
