/- spec.l06Put: a pin put in at its place. -/
import Derived.Test.YtkbceojeahninaaCylOk
import Derived.Test.YtkbceojeahninaaSpecSort
namespace Go.Proofs.Ytkbceojeahninaa
open Go.ChangeShapes Go.WideShapes Go.ChangeAt Go.RowKit
set_option linter.unusedVariables false
theorem ins_tm {S : List (Int × Int)} {a : Nat} {z : Int × Int} (ha : a ≤ S.length) (k : Nat) : (S.take a ++ [z] ++ S.drop a).getD k (0, 0) = if k < a then S.getD k (0, 0) else if k = a then z else S.getD (k - 1) (0, 0) := by
  have hl : (S.take a).length = a := by simp; omega
  rw [List.getD_eq_getElem?_getD, List.getD_eq_getElem?_getD, List.getD_eq_getElem?_getD]
  by_cases h1 : k < a
  · rw [if_pos h1, List.append_assoc, List.getElem?_append_left (by omega), List.getElem?_take, if_pos h1]
  · rw [if_neg h1, List.append_assoc, List.getElem?_append_right (by omega), hl]
    by_cases h2 : k = a
    · rw [if_pos h2, h2, Nat.sub_self]; rfl
    · rw [if_neg h2]
      obtain ⟨m, hm⟩ : ∃ m, k - a = m + 1 := ⟨k - a - 1, by omega⟩
      rw [hm]
      show (([z] ++ S.drop a)[m + 1]?).getD (0, 0) = _
      rw [List.getElem?_append_right (by simp), List.getElem?_drop]
      congr 2
      simp; omega
theorem put_ok {s t : Int} {S : List (Int × Int)} {a : Nat} {x y : Int} (h : cylTo s t S S.length) (hx : 0 ≤ x ∧ x ≤ t - 1) (hy : 0 ≤ y ∧ y ≤ s - 1) (ha : a ≤ S.length) (hlo : ∀ j, j < a → lessB (pt S j) (tm S j) y x = true) (hhi : a < S.length → lessB y x (pt S a) (tm S a) = true) :
    cylTo s t (S.take a ++ [(x, y)] ++ S.drop a) (S.take a ++ [(x, y)] ++ S.drop a).length := by
  have ET : ∀ k, tm (S.take a ++ [(x, y)] ++ S.drop a) k = if k < a then tm S k else if k = a then x else tm S (k - 1) := fun k => by
    unfold tm; rw [ins_tm ha]; split; rfl; split <;> rfl
  have EP : ∀ k, pt (S.take a ++ [(x, y)] ++ S.drop a) k = if k < a then pt S k else if k = a then y else pt S (k - 1) := fun k => by
    unfold pt; rw [ins_tm ha]; split; rfl; split <;> rfl
  have hlen : (S.take a ++ [(x, y)] ++ S.drop a).length = S.length + 1 := by simp; omega
  rw [hlen]
  generalize S.take a ++ [(x, y)] ++ S.drop a = M at *
  intro k hk
  unfold cylAt plAt
  by_cases h1 : k < a
  · have e1 := ET k
    have e2 := EP k
    have e3 := ET (k - 1)
    have e4 := EP (k - 1)
    rw [if_pos (by omega)] at e1 e2 e3 e4
    rw [e1, e2, e3, e4]
    exact h k (by omega)
  · by_cases h2 : k = a
    · have e1 := ET k
      have e2 := EP k
      rw [if_neg h1, if_pos h2] at e1 e2
      rw [e1, e2]
      refine ⟨hx, hy, fun h0 => ?_⟩
      have e3 := ET (k - 1)
      have e4 := EP (k - 1)
      rw [if_pos (by omega)] at e3 e4
      rw [e3, e4]
      exact hlo (k - 1) (by omega)
    · have e1 := ET k
      have e2 := EP k
      rw [if_neg h1, if_neg h2] at e1 e2
      rw [e1, e2]
      obtain ⟨p1, p2, p3⟩ := h (k - 1) (by omega)
      refine ⟨p1, p2, fun _ => ?_⟩
      have e3 := ET (k - 1)
      have e4 := EP (k - 1)
      by_cases h3 : k - 1 = a
      · rw [if_neg (by omega), if_pos h3] at e3 e4
        rw [e3, e4, h3]
        exact hhi (by omega)
      · rw [if_neg (by omega), if_neg h3] at e3 e4
        rw [e3, e4]
        exact p3 (by omega)
theorem put_hi {u v x y : Int} (h : lessB u v y x = false) (hne : ¬ (v = x ∧ u = y)) : lessB y x u v = true := by
  unfold lessB at *
  simp only [Bool.or_eq_false_iff, Bool.and_eq_false_iff, decide_eq_false_iff_not, Bool.or_eq_true, Bool.and_eq_true, decide_eq_true_eq] at *
  omega
def PutR (s t : Int) (e n : Nat) (w : World) (en : Ending) (w' : World) : Prop :=
  ∃ (M : List (Int × Int)) (g c : Nat) (b : Bool), en = .returned (.tuple #[.slice (some ⟨g, 0, none⟩) M.length c, .bool b]) ∧ OwnN e w.heap.size w' (.slice (some ⟨g, 0, none⟩) M.length c) M ∧ cylTo s t M M.length ∧ M.length ≤ n + 1 ∧ Below w.heap.size w w'
theorem held4P_start {w v : World} {b1 b2 o1 o2 : Nat} {u1 u2 u3 u4 : Value} (h1 : w.cell? ⟨b1, o1, none⟩ = some u1) (h2 : w.cell? ⟨b1, o1 + 1, none⟩ = some u2) (h3 : w.cell? ⟨b2, o2, none⟩ = some u3) (h4 : w.cell? ⟨b2, o2 + 1, none⟩ = some u4) (hv : v = w.drew) :
    v.cell? ⟨b1, o1, none⟩ = some u1 ∧ v.cell? ⟨b1, o1 + 1, none⟩ = some u2 ∧ v.cell? ⟨b2, o2, none⟩ = some u3 ∧ v.cell? ⟨b2, o2 + 1, none⟩ = some u4 ∧ Below w.heap.size w v := by
  subst hv
  exact ⟨h1, h2, h3, h4, (Below.refl _ _).drew⟩
theorem held4P_keep {w v u : World} {b1 b2 o1 o2 : Nat} {u1 u2 u3 u4 : Value} (l1 : b1 < w.heap.size) (l2 : b2 < w.heap.size)
    (h : v.cell? ⟨b1, o1, none⟩ = some u1 ∧ v.cell? ⟨b1, o1 + 1, none⟩ = some u2 ∧ v.cell? ⟨b2, o2, none⟩ = some u3 ∧ v.cell? ⟨b2, o2 + 1, none⟩ = some u4 ∧ Below w.heap.size w v) (hb : Below v.heap.size v u) :
    u.cell? ⟨b1, o1, none⟩ = some u1 ∧ u.cell? ⟨b1, o1 + 1, none⟩ = some u2 ∧ u.cell? ⟨b2, o2, none⟩ = some u3 ∧ u.cell? ⟨b2, o2 + 1, none⟩ = some u4 ∧ Below w.heap.size w u := by
  obtain ⟨h1, h2, h3, h4, h5⟩ := h
  have hs := h5.size
  exact ⟨(hb.cell (p := ⟨b1, o1, none⟩) (by show b1 < _; omega)).trans h1, (hb.cell (p := ⟨b1, o1 + 1, none⟩) (by show b1 < _; omega)).trans h2, (hb.cell (p := ⟨b2, o2, none⟩) (by show b2 < _; omega)).trans h3, (hb.cell (p := ⟨b2, o2 + 1, none⟩) (by show b2 < _; omega)).trans h4, h5.trans (hb.mono hs)⟩
theorem held4P_bel {w v : World} {b1 b2 o1 o2 : Nat} {u1 u2 u3 u4 : Value} (h : v.cell? ⟨b1, o1, none⟩ = some u1 ∧ v.cell? ⟨b1, o1 + 1, none⟩ = some u2 ∧ v.cell? ⟨b2, o2, none⟩ = some u3 ∧ v.cell? ⟨b2, o2 + 1, none⟩ = some u4 ∧ Below w.heap.size w v) : Below w.heap.size w v := h.2.2.2.2
attribute [local irreducible] tm pt lessB in
set_option maxHeartbeats 3200000 in
theorem put_any (s t : Int) (go co : Nat) (S : List (Int × Int)) (x y : Int) (w : World) (hrd : RdN w (some ⟨go, 0, none⟩) S) (hco : S.length ≤ co) (hcm : co ≤ maxLen) (hS : cylTo s t S S.length) (hx : 0 ≤ x ∧ x ≤ t - 1) (hy : 0 ≤ y ∧ y ≤ s - 1) (hl : S.length ≤ 40) :
    Calls Try.prog 110 #[.slice (some ⟨go, 0, none⟩) S.length co, .agg #[.int .i64 x, .int .i64 y]] w (PutR s t 65 S.length w) := by
  obtain ⟨W0, hW0⟩ : ∃ W, W = w.alloc (.cells #[.int .i64 x, .int .i64 y] 65) := ⟨_, rfl⟩
  have hbw : Below w.heap.size w W0 := by rw [hW0]; exact (Below.refl _ _).alloc (Nat.le_refl _) _
  have s0 : w.heap.size < W0.heap.size := by rw [hW0]; simp
  have k1 : W0.cell? ⟨w.heap.size, 0, none⟩ = some (.int .i64 x) := by rw [hW0]; simp [go_sem]
  have k2 : W0.cell? ⟨w.heap.size, 0 + 1, none⟩ = some (.int .i64 y) := by rw [hW0]; simp [go_sem]
  have hrdw := hrd.below hbw rfl
  have HW0 := Lib.hid hW0
  have HS := Lib.hid hS
  have hcm2 : co ≤ 9223372036854775807 := by unfold maxLen at hcm; omega
  clear hW0 hrd hS
  go_enter Try.func110, Try.ntmps110
  go_upto_region 1 with (fail)
  rw [← HW0.out]
  go_wp2
  go_loopw [6] (fun i wt => ∃ a : Nat, a ≤ S.length ∧ i = .int .i64 a ∧ (∀ j, j < a → lessB (pt S j) (tm S j) y x = true) ∧ Below W0.heap.size W0 wt) (fun i _ => S.length - (intOf i).toNat)
  case atStart => exact ⟨0, by omega, rfl, fun _ h => by omega, Below.refl _ _⟩
  case round =>
    obtain ⟨a, ha, rfl, hlo, hbt⟩ := hrel
    have HLO := Lib.hid hlo
    clear hlo
    have k1' := (hbt.cell (p := ⟨w.heap.size, 0, none⟩) s0).trans k1
    have k2' := (hbt.cell (p := ⟨w.heap.size, 0 + 1, none⟩) s0).trans k2
    have mb' : w.heap.size < wr.heap.size := Nat.lt_of_lt_of_le s0 hbt.size
    by_cases hlt2 : a < S.length
    · obtain ⟨b', o', he, hgl0, hcc⟩ := hrdw (by omega)
      injection he with he
      injection he with he1 he2
      subst he1 he2
      have k3 := (hbt.cell (p := ⟨go, 0 + a * 2, none⟩) hgl0).trans (hcc a hlt2).1
      have k4 := (hbt.cell (p := ⟨go, 0 + a * 2 + 1, none⟩) hgl0).trans (hcc a hlt2).2
      rw [Nat.zero_add] at k3 k4
      have hgl : go < wr.heap.size := Nat.lt_of_lt_of_le hgl0 hbt.size
      have h1a : (0 : Int) ≤ (a : Int) := by omega
      have h1b : (a : Int) < (S.length : Int) := by omega
      clear hcc
      cases hB : lessB (pt S a) (tm S a) y x
      · have HB := Lib.hid hB
        have hca : ¬ co = a := by omega
        have hac : (a : Int) ≤ (co : Int) := by omega
        have haS : (a : Int) ≤ (S.length : Int) := by omega
        have hSc : (S.length : Int) ≤ (co : Int) := by omega
        clear hB
        go_wp2_with fail
        go_region_held3 (fun w' => w'.cell? ⟨w.heap.size, 0, none⟩ = some (.int .i64 x) ∧ w'.cell? ⟨w.heap.size, 0 + 1, none⟩ = some (.int .i64 y) ∧ w'.cell? ⟨go, a * 2, none⟩ = some (.int .i64 (tm S a)) ∧ w'.cell? ⟨go, a * 2 + 1, none⟩ = some (.int .i64 (pt S a)) ∧ Below wr.heap.size wr w') (first | exact held4P_start k1' k2' k3 k4 rfl | assumption | exact held4P_keep mb' hgl (by assumption) hbz)
          (first | (go_at_call 104; refine (less6_any _ _ _ _ _).mono ?_; rintro e wz ⟨rfl, hbz⟩; rw [HB.out]))
        rename_i hH
        have hb2 := hbt.trans ((held4P_bel hH).mono hbt.size)
        obtain ⟨j1, j2, j3, j4, jb⟩ := hH
        have mbz := Nat.lt_of_lt_of_le mb' jb.size
        by_cases e1 : tm S a = x
        · by_cases e2 : pt S a = y
          · have q1 : (tm S a == x) = true := by simpa using e1
            have q2 : (pt S a == y) = true := by simpa using e2
            clear e1 e2
            go_wp2_with fail
            go_quiet (fail)
            go_upto_region 5 with fail
            generalize hWq : (wz.drewN _) = V0
            have hb0 : Below wz.heap.size wz V0 := by rw [← hWq]; exact bel_drewN (Below.refl _ _) _
            have hrq := (hrdw.below hb2 rfl).below hb0 rfl
            clear hWq
            go_wp2_with (at_builtin; refine app_pairs rfl _ _ 54 rfl 65 Try.underlying54 (by kernel_rfl) V0.heap.size _ [] S (some ⟨go, 0, none⟩) co (OwnN.lit0 V0 _) (rd_alloc hrq _) rfl rfl (by simp; omega) (by simp) (fun h => by cases h) ?_; intro v' w4 hown1 hb4)
            rw [List.nil_append] at hown1
            obtain ⟨A1, cN, rfl, _, _, _⟩ := hown1.rd
            obtain ⟨gN, rfl, _⟩ := hown1.head (by omega)
            have hB4 : Below w.heap.size w w4 := hbw.trans ((hb2.trans ((hb0.trans (((Below.refl V0.heap.size V0).alloc (Nat.le_refl _) _).trans hb4 |>.mono hb0.size)).mono hb2.size)).mono hbw.size)
            have HO := Lib.hid (hown1.base_le (Nat.le_trans hbw.size (Nat.le_trans hb2.size hb0.size)))
            clear hown1 hb4
            go_wp2
            go_ret2
            exact ⟨S, gN, cN, false, rfl, HO.out, HS.out, by omega, hB4⟩
          · have q1 : (tm S a == x) = true := by simpa using e1
            have q2 : (pt S a == y) = false := by simpa using e2
            have HHI := Lib.hid (put_hi HB.out (fun h => e2 h.2))
            clear e1 e2
            go_wp2_with fail
            go_quiet (fail)
            go_upto_region 6 with fail
            generalize hWq : (wz.drewN _) = V0
            have hb0 : Below wz.heap.size wz V0 := by rw [← hWq]; exact bel_drewN (Below.refl _ _) _
            have k1q := (hb0.cell (p := ⟨w.heap.size, 0, none⟩) mbz).trans j1
            have k2q := (hb0.cell (p := ⟨w.heap.size, 0 + 1, none⟩) mbz).trans j2
            have mbq : w.heap.size < V0.heap.size := Nat.lt_of_lt_of_le mbz hb0.size
            have hrq := (hrdw.below hb2 rfl).below hb0 rfl
            obtain ⟨T, hT⟩ : ∃ T, T = S.take a := ⟨_, rfl⟩
            obtain ⟨R, hR⟩ : ∃ R, R = S.drop a := ⟨_, rfl⟩
            have hTl : T.length = a := by rw [hT]; simp; omega
            have hRl : R.length = S.length - a := by rw [hR]; simp
            have hrdT : RdN V0 (some ⟨go, 0, none⟩) T := by rw [hT]; exact rd_take a hrq
            have hrdR : RdN V0 (some ⟨go, a * 2, none⟩) R := by rw [hR]; exact rd_drop a hrq
            have HX := Lib.hid (show cylTo s t ([] ++ T ++ [(x, y)] ++ R) ([] ++ T ++ [(x, y)] ++ R).length by rw [List.nil_append, hT, hR]; exact put_ok HS.out hx hy (by omega) HLO.out fun _ => HHI.out)
            have HXL := Lib.hid (show ([] ++ T ++ [(x, y)] ++ R).length ≤ S.length + 1 by simp [hTl, hRl]; omega)
            have HTL := Lib.hid hTl
            have HRL := Lib.hid hRl
            clear hWq hT hR hTl hRl
            go_region_held3 (fun w' => w'.cell? ⟨w.heap.size, 0, none⟩ = some (.int .i64 x) ∧ w'.cell? ⟨w.heap.size, 0 + 1, none⟩ = some (.int .i64 y) ∧ Below V0.heap.size V0 w')
              (first | exact ⟨k1q, k2q, (Below.refl _ _).drew⟩ | exact ⟨k1q, k2q, Below.refl _ _⟩ | assumption | exact heldB_keep mbq (by assumption) (((Below.refl _ _).alloc (Nat.le_refl _) _).drew) | exact heldB_keep mbq (by assumption) (((Below.refl _ _).alloc (Nat.le_refl _) _)) | exact heldC_keep mbq (by assumption) hbn1 | exact heldC_keep mbq (by assumption) hbn2 | exact heldC_keep mbq (by assumption) hbn3)
              (first
                | (refine step_app_pairs rfl (.tmp 36) (.tmp 39) _ rfl 65 Try.underlying54 (by kernel_rfl) V0.heap.size _ _ _ a [] T (some ⟨go, 0, none⟩) co rfl rfl rfl HTL.out rfl (by first | exact OwnN.lit0 V0 _ | exact (OwnN.lit0 V0 _).alloc _ | exact (own_drew (OwnN.lit0 V0 _)).alloc _ | exact own_one1 _ _ _) (hrdT.below (heldB_bel (by assumption)) rfl) (by have := HTL.out; simp; omega) (heldB_bel (by assumption)).size ?_; intro g1 c1 w1 hown1 hbn1 hgr1)
                | (refine step_app_pairs rfl (.tmp 40) (.tmp 42) _ rfl 65 Try.underlying54 (by kernel_rfl) V0.heap.size g1 c1 _ _ ([] ++ T) [(x, y)] _ 1 rfl rfl rfl rfl rfl (by first | exact hown1 | exact hown1.alloc _) (by first | exact rd_one _ _ _ _ | exact rd_kept (rd_one1 _ _ _ _ _) hgr1 (by omega) | exact rd_kept (rd_alloc (rd_one _ _ _ _) _) hgr1 (by omega) | exact rd_kept (rd_drew (rd_one1 _ _ _ _ _)) hgr1 (by omega) | exact rd_kept (rd_drew (rd_alloc (rd_one _ _ _ _) _)) hgr1 (by omega) | exact rd_kept (rd_drew (rd_alloc (rd_drew (rd_one _ _ _ _)) _)) hgr1 (by omega)) (by have := HTL.out; simp; omega) (heldB_bel (by assumption)).size ?_; intro g2 c2 w2 hown2 hbn2 hgr2)
                | (refine step_app_pairs rfl (.tmp 43) (.tmp 46) _ rfl 65 Try.underlying54 (by kernel_rfl) V0.heap.size g2 c2 _ _ ([] ++ T ++ [(x, y)]) R (some ⟨go, a * 2, none⟩) (co - a) rfl rfl rfl (by have := HRL.out; omega) rfl hown2 (hrdR.below (heldB_bel (by assumption)) rfl) (by have := HTL.out; have := HRL.out; simp; omega) (heldB_bel (by assumption)).size ?_; intro g3 c3 w3 hown3 hbn3 hgr3))
            all_goals
              have hB3 : Below w.heap.size w w3 := hbw.trans ((hb2.trans ((hb0.trans ((heldB_bel (by assumption)).mono hb0.size)).mono hb2.size)).mono hbw.size)
              go_wp2
              all_goals
                go_ret2
                exact ⟨[] ++ T ++ [(x, y)] ++ R, g3, c3, true, by first | rfl | (simp; done) | (simp; omega), hown3.base_le (Nat.le_trans hbw.size (Nat.le_trans hb2.size hb0.size)), HX.out, HXL.out, hB3⟩
        · have q1 : (tm S a == x) = false := by simpa using e1
          have HHI := Lib.hid (put_hi HB.out (fun h => e1 h.1))
          clear e1
          go_wp2_with fail
          go_quiet (fail)
          go_upto_region 6 with fail
          generalize hWq : (wz.drewN _) = V0
          have hb0 : Below wz.heap.size wz V0 := by rw [← hWq]; exact bel_drewN (Below.refl _ _) _
          have k1q := (hb0.cell (p := ⟨w.heap.size, 0, none⟩) mbz).trans j1
          have k2q := (hb0.cell (p := ⟨w.heap.size, 0 + 1, none⟩) mbz).trans j2
          have mbq : w.heap.size < V0.heap.size := Nat.lt_of_lt_of_le mbz hb0.size
          have hrq := (hrdw.below hb2 rfl).below hb0 rfl
          obtain ⟨T, hT⟩ : ∃ T, T = S.take a := ⟨_, rfl⟩
          obtain ⟨R, hR⟩ : ∃ R, R = S.drop a := ⟨_, rfl⟩
          have hTl : T.length = a := by rw [hT]; simp; omega
          have hRl : R.length = S.length - a := by rw [hR]; simp
          have hrdT : RdN V0 (some ⟨go, 0, none⟩) T := by rw [hT]; exact rd_take a hrq
          have hrdR : RdN V0 (some ⟨go, a * 2, none⟩) R := by rw [hR]; exact rd_drop a hrq
          have HX := Lib.hid (show cylTo s t ([] ++ T ++ [(x, y)] ++ R) ([] ++ T ++ [(x, y)] ++ R).length by rw [List.nil_append, hT, hR]; exact put_ok HS.out hx hy (by omega) HLO.out fun _ => HHI.out)
          have HXL := Lib.hid (show ([] ++ T ++ [(x, y)] ++ R).length ≤ S.length + 1 by simp [hTl, hRl]; omega)
          have HTL := Lib.hid hTl
          have HRL := Lib.hid hRl
          clear hWq hT hR hTl hRl
          go_region_held3 (fun w' => w'.cell? ⟨w.heap.size, 0, none⟩ = some (.int .i64 x) ∧ w'.cell? ⟨w.heap.size, 0 + 1, none⟩ = some (.int .i64 y) ∧ Below V0.heap.size V0 w')
            (first | exact ⟨k1q, k2q, (Below.refl _ _).drew⟩ | exact ⟨k1q, k2q, Below.refl _ _⟩ | assumption | exact heldB_keep mbq (by assumption) (((Below.refl _ _).alloc (Nat.le_refl _) _).drew) | exact heldB_keep mbq (by assumption) (((Below.refl _ _).alloc (Nat.le_refl _) _)) | exact heldC_keep mbq (by assumption) hbn1 | exact heldC_keep mbq (by assumption) hbn2 | exact heldC_keep mbq (by assumption) hbn3)
            (first
              | (refine step_app_pairs rfl (.tmp 36) (.tmp 39) _ rfl 65 Try.underlying54 (by kernel_rfl) V0.heap.size _ _ _ a [] T (some ⟨go, 0, none⟩) co rfl rfl rfl HTL.out rfl (by first | exact OwnN.lit0 V0 _ | exact (OwnN.lit0 V0 _).alloc _ | exact (own_drew (OwnN.lit0 V0 _)).alloc _ | exact own_one1 _ _ _) (hrdT.below (heldB_bel (by assumption)) rfl) (by have := HTL.out; simp; omega) (heldB_bel (by assumption)).size ?_; intro g1 c1 w1 hown1 hbn1 hgr1)
              | (refine step_app_pairs rfl (.tmp 40) (.tmp 42) _ rfl 65 Try.underlying54 (by kernel_rfl) V0.heap.size g1 c1 _ _ ([] ++ T) [(x, y)] _ 1 rfl rfl rfl rfl rfl (by first | exact hown1 | exact hown1.alloc _) (by first | exact rd_one _ _ _ _ | exact rd_kept (rd_one1 _ _ _ _ _) hgr1 (by omega) | exact rd_kept (rd_alloc (rd_one _ _ _ _) _) hgr1 (by omega) | exact rd_kept (rd_drew (rd_one1 _ _ _ _ _)) hgr1 (by omega) | exact rd_kept (rd_drew (rd_alloc (rd_one _ _ _ _) _)) hgr1 (by omega) | exact rd_kept (rd_drew (rd_alloc (rd_drew (rd_one _ _ _ _)) _)) hgr1 (by omega)) (by have := HTL.out; simp; omega) (heldB_bel (by assumption)).size ?_; intro g2 c2 w2 hown2 hbn2 hgr2)
              | (refine step_app_pairs rfl (.tmp 43) (.tmp 46) _ rfl 65 Try.underlying54 (by kernel_rfl) V0.heap.size g2 c2 _ _ ([] ++ T ++ [(x, y)]) R (some ⟨go, a * 2, none⟩) (co - a) rfl rfl rfl (by have := HRL.out; omega) rfl hown2 (hrdR.below (heldB_bel (by assumption)) rfl) (by have := HTL.out; have := HRL.out; simp; omega) (heldB_bel (by assumption)).size ?_; intro g3 c3 w3 hown3 hbn3 hgr3))
          all_goals
            have hB3 : Below w.heap.size w w3 := hbw.trans ((hb2.trans ((hb0.trans ((heldB_bel (by assumption)).mono hb0.size)).mono hb2.size)).mono hbw.size)
            go_wp2
            all_goals
              go_ret2
              exact ⟨[] ++ T ++ [(x, y)] ++ R, g3, c3, true, by first | rfl | (simp; done) | (simp; omega), hown3.base_le (Nat.le_trans hbw.size (Nat.le_trans hb2.size hb0.size)), HX.out, HXL.out, hB3⟩
      · have HB := Lib.hid hB
        clear hB
        go_wp2_with fail
        go_region_held3 (fun w' => w'.cell? ⟨w.heap.size, 0, none⟩ = some (.int .i64 x) ∧ w'.cell? ⟨w.heap.size, 0 + 1, none⟩ = some (.int .i64 y) ∧ w'.cell? ⟨go, a * 2, none⟩ = some (.int .i64 (tm S a)) ∧ w'.cell? ⟨go, a * 2 + 1, none⟩ = some (.int .i64 (pt S a)) ∧ Below wr.heap.size wr w') (first | exact held4P_start k1' k2' k3 k4 rfl | assumption | exact held4P_keep mb' hgl (by assumption) hbz)
          (first | (go_at_call 104; refine (less6_any _ _ _ _ _).mono ?_; rintro e wz ⟨rfl, hbz⟩; rw [HB.out]))
        rename_i hH
        have hb2 := hbt.trans ((held4P_bel hH).mono hbt.size)
        go_wp2
        go_roundw
        case rel => exact ⟨a + 1, by omega, by go_num, fun j hj => by
          by_cases e : j = a
          · subst e; exact HB.out
          · exact HLO.out j (by omega), hb2⟩
        case measure => simp [intOf]; omega
    · obtain rfl : a = S.length := by omega
      have hf : decide ((S.length : Int) < (S.length : Int)) = false := by simp
      have hSc : (S.length : Int) ≤ (co : Int) := by omega
      go_wp2_with fail
      go_quiet (fail)
      go_wp2_with fail
      go_quiet (fail)
      go_upto_region 6 with fail
      generalize hWq : ((wr.drewN _).drewN _) = V0
      have hb2 := hbt
      have hb0 : Below wr.heap.size wr V0 := by rw [← hWq]; exact bel_drewN (bel_drewN (Below.refl _ _) _) _
      have k1q := (hb0.cell (p := ⟨w.heap.size, 0, none⟩) mb').trans k1'
      have k2q := (hb0.cell (p := ⟨w.heap.size, 0 + 1, none⟩) mb').trans k2'
      have mbq : w.heap.size < V0.heap.size := Nat.lt_of_lt_of_le mb' hb0.size
      have hrq := (hrdw.below hb2 rfl).below hb0 rfl
      obtain ⟨T, hT⟩ : ∃ T, T = S := ⟨_, rfl⟩
      have hTl : T.length = S.length := by rw [hT]
      have hrdT : RdN V0 (some ⟨go, 0, none⟩) T := by rw [hT]; exact hrq
      have HX := Lib.hid (show cylTo s t ([] ++ T ++ [(x, y)] ++ []) ([] ++ T ++ [(x, y)] ++ []).length by
        have h9 := put_ok HS.out hx hy (Nat.le_refl S.length) HLO.out (fun h => by omega)
        rw [List.take_of_length_le (Nat.le_refl _), List.drop_of_length_le (Nat.le_refl _)] at h9
        rw [List.nil_append, hT]; exact h9)
      have HXL := Lib.hid (show ([] ++ T ++ [(x, y)] ++ []).length ≤ S.length + 1 by simp [hTl])
      have HTL := Lib.hid hTl
      clear hWq hT hTl
      go_region_held3 (fun w' => w'.cell? ⟨w.heap.size, 0, none⟩ = some (.int .i64 x) ∧ w'.cell? ⟨w.heap.size, 0 + 1, none⟩ = some (.int .i64 y) ∧ Below V0.heap.size V0 w')
        (first | exact ⟨k1q, k2q, (Below.refl _ _).drew⟩ | exact ⟨k1q, k2q, Below.refl _ _⟩ | assumption | exact heldB_keep mbq (by assumption) (((Below.refl _ _).alloc (Nat.le_refl _) _).drew) | exact heldB_keep mbq (by assumption) (((Below.refl _ _).alloc (Nat.le_refl _) _)) | exact heldC_keep mbq (by assumption) hbn1 | exact heldC_keep mbq (by assumption) hbn2 | exact heldC_keep mbq (by assumption) hbn3)
        (first
          | (refine step_app_pairs rfl (.tmp 36) (.tmp 39) _ rfl 65 Try.underlying54 (by kernel_rfl) V0.heap.size _ _ _ S.length [] T (some ⟨go, 0, none⟩) co rfl rfl rfl HTL.out rfl (by first | exact OwnN.lit0 V0 _ | exact (OwnN.lit0 V0 _).alloc _ | exact (own_drew (OwnN.lit0 V0 _)).alloc _ | exact own_one1 _ _ _) (hrdT.below (heldB_bel (by assumption)) rfl) (by have := HTL.out; simp; omega) (heldB_bel (by assumption)).size ?_; intro g1 c1 w1 hown1 hbn1 hgr1)
          | (refine step_app_pairs rfl (.tmp 40) (.tmp 42) _ rfl 65 Try.underlying54 (by kernel_rfl) V0.heap.size g1 c1 _ _ ([] ++ T) [(x, y)] _ 1 rfl rfl rfl rfl rfl (by first | exact hown1 | exact hown1.alloc _) (by first | exact rd_one _ _ _ _ | exact rd_kept (rd_one1 _ _ _ _ _) hgr1 (by omega) | exact rd_kept (rd_alloc (rd_one _ _ _ _) _) hgr1 (by omega) | exact rd_kept (rd_drew (rd_one1 _ _ _ _ _)) hgr1 (by omega) | exact rd_kept (rd_drew (rd_alloc (rd_one _ _ _ _) _)) hgr1 (by omega) | exact rd_kept (rd_drew (rd_alloc (rd_drew (rd_one _ _ _ _)) _)) hgr1 (by omega)) (by have := HTL.out; simp; omega) (heldB_bel (by assumption)).size ?_; intro g2 c2 w2 hown2 hbn2 hgr2)
          | (refine step_app_pairs rfl (.tmp 43) (.tmp 46) _ rfl 65 Try.underlying54 (by kernel_rfl) V0.heap.size g2 c2 _ 0 ([] ++ T ++ [(x, y)]) [] (if co = S.length then some ⟨go, 0, none⟩ else some ⟨go, S.length * 2, none⟩) (co - S.length) rfl rfl rfl rfl some_if hown2 (rd_nil _ _) (by have := HTL.out; simp; omega) (heldB_bel (by assumption)).size ?_; intro g3 c3 w3 hown3 hbn3 hgr3))
      all_goals
        have hB3 : Below w.heap.size w w3 := hbw.trans ((hb2.trans ((hb0.trans ((heldB_bel (by assumption)).mono hb0.size)).mono hb2.size)).mono hbw.size)
        go_wp2
        all_goals
          go_ret2
          exact ⟨[] ++ T ++ [(x, y)] ++ [], g3, c3, true, by first | rfl | (simp; done) | (simp; omega), hown3.base_le (Nat.le_trans hbw.size (Nat.le_trans hb2.size hb0.size)), HX.out, HXL.out, hB3⟩
end Go.Proofs.Ytkbceojeahninaa
