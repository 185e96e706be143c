/- When a cylinder is well made: the program's CylinderOk and the reference's. -/
import Derived.Test.YtkbceojeahninaaCyl
import Derived.Test.YtkbceojeahninaaTune
import Derived.Deep.Cut
import Derived.IntWalk
namespace Go.Proofs.Ytkbceojeahninaa
open Go.ChangeShapes Go.WideShapes Go.ChangeAt Go.RowKit
set_option linter.unusedVariables false
def plAt (l : List (Int × Int)) (k : Nat) : Bool := lessB (pt l (k - 1)) (tm l (k - 1)) (pt l k) (tm l k)
def cylAt (s t : Int) (l : List (Int × Int)) (k : Nat) : Prop := (0 ≤ tm l k ∧ tm l k ≤ t - 1) ∧ (0 ≤ pt l k ∧ pt l k ≤ s - 1) ∧ (0 < k → plAt l k = true)
def cylTo (s t : Int) (l : List (Int × Int)) (n : Nat) : Prop := ∀ k, k < n → cylAt s t l k
def cylP (s t : Int) (l : List (Int × Int)) : Prop := (4 ≤ s ∧ s ≤ 96) ∧ (1 ≤ t ∧ t ≤ 100) ∧ l.length ≤ 100 ∧ cylTo s t l l.length
noncomputable instance cylDec (s t : Int) (l : List (Int × Int)) : Decidable (cylP s t l) := Classical.propDecidable _
noncomputable def cylB (s t : Int) (l : List (Int × Int)) : Bool := decide (cylP s t l)
theorem cylB_no {s t : Int} {l : List (Int × Int)} {k : Nat} (hk : k < l.length) (h : ¬ cylAt s t l k) : cylB s t l = false := decide_eq_false fun hp => h (hp.2.2.2 k hk)
theorem cylB_no1 {s t : Int} {l : List (Int × Int)} (h : ¬ (4 ≤ s ∧ s ≤ 96)) : cylB s t l = false := decide_eq_false fun hp => h hp.1
theorem cylB_no2 {s t : Int} {l : List (Int × Int)} (h : ¬ (1 ≤ t ∧ t ≤ 100)) : cylB s t l = false := decide_eq_false fun hp => h hp.2.1
theorem cylB_no3 {s t : Int} {l : List (Int × Int)} (h : ¬ l.length ≤ 100) : cylB s t l = false := decide_eq_false fun hp => h hp.2.2.1
theorem cylB_all {s t : Int} {l : List (Int × Int)} (h1 : 4 ≤ s ∧ s ≤ 96) (h2 : 1 ≤ t ∧ t ≤ 100) (h3 : l.length ≤ 100) (h : cylTo s t l l.length) : cylB s t l = true := decide_eq_true ⟨h1, h2, h3, h⟩
theorem cylTo.succ {s t : Int} {l : List (Int × Int)} {k : Nat} (h : cylTo s t l k) (hk : cylAt s t l k) : cylTo s t l (k + 1) := by
  intro j hj
  by_cases e : j = k
  · rw [e]; exact hk
  · exact h j (by omega)
theorem pl_m {l : List (Int × Int)} {k m : Nat} (h : k = m + 1) : plAt l k = lessB (pt l m) (tm l m) (pt l k) (tm l k) := by
  unfold plAt; rw [show k - 1 = m by omega]
theorem held7_start {w v : World} {p1 p2 p3 p4 p5 p6 p7 : Addr} {u1 u2 u3 u4 u5 u6 u7 : Value} (h1 : w.cell? p1 = some u1) (h2 : w.cell? p2 = some u2) (h3 : w.cell? p3 = some u3) (h4 : w.cell? p4 = some u4) (h5 : w.cell? p5 = some u5) (h6 : w.cell? p6 = some u6) (h7 : w.cell? p7 = some u7) (hv : v = w.drew) :
    v.cell? p1 = some u1 ∧ v.cell? p2 = some u2 ∧ v.cell? p3 = some u3 ∧ v.cell? p4 = some u4 ∧ v.cell? p5 = some u5 ∧ v.cell? p6 = some u6 ∧ v.cell? p7 = some u7 ∧ Below w.heap.size w v := by
  subst hv
  exact ⟨h1, h2, h3, h4, h5, h6, h7, (Below.refl _ _).drew⟩
theorem held7_keep {w v u : World} {p1 p2 p3 p4 p5 p6 p7 : Addr} {u1 u2 u3 u4 u5 u6 u7 : Value} (l1 : p1.block < w.heap.size) (l2 : p2.block < w.heap.size) (l3 : p3.block < w.heap.size) (l4 : p4.block < w.heap.size) (l5 : p5.block < w.heap.size) (l6 : p6.block < w.heap.size) (l7 : p7.block < w.heap.size)
    (h : v.cell? p1 = some u1 ∧ v.cell? p2 = some u2 ∧ v.cell? p3 = some u3 ∧ v.cell? p4 = some u4 ∧ v.cell? p5 = some u5 ∧ v.cell? p6 = some u6 ∧ v.cell? p7 = some u7 ∧ Below w.heap.size w v) (hb : Below v.heap.size v u) :
    u.cell? p1 = some u1 ∧ u.cell? p2 = some u2 ∧ u.cell? p3 = some u3 ∧ u.cell? p4 = some u4 ∧ u.cell? p5 = some u5 ∧ u.cell? p6 = some u6 ∧ u.cell? p7 = some u7 ∧ Below w.heap.size w u := by
  obtain ⟨h1, h2, h3, h4, h5, h6, h7, h8⟩ := h
  have hs := h8.size
  exact ⟨(hb.cell (by omega)).trans h1, (hb.cell (by omega)).trans h2, (hb.cell (by omega)).trans h3, (hb.cell (by omega)).trans h4, (hb.cell (by omega)).trans h5, (hb.cell (by omega)).trans h6, (hb.cell (by omega)).trans h7, h8.trans (hb.mono hs)⟩
theorem held7_bel {w v : World} {p1 p2 p3 p4 p5 p6 p7 : Addr} {u1 u2 u3 u4 u5 u6 u7 : Value}
    (h : v.cell? p1 = some u1 ∧ v.cell? p2 = some u2 ∧ v.cell? p3 = some u3 ∧ v.cell? p4 = some u4 ∧ v.cell? p5 = some u5 ∧ v.cell? p6 = some u6 ∧ v.cell? p7 = some u7 ∧ Below w.heap.size w v) : Below w.heap.size w v := h.2.2.2.2.2.2.2
theorem less6_any (x y u v : Int) (w : World) : Calls Try.prog 104 #[.agg #[.int .i64 x, .int .i64 y], .agg #[.int .i64 u, .int .i64 v]] w fun e w' => e = .returned (.bool (lessB y x v u)) ∧ Below w.heap.size w w' := by
  have hb : ∀ w' : World, w' = (w.alloc (.cells #[.int .i64 x, .int .i64 y] 65)).alloc (.cells #[.int .i64 u, .int .i64 v] 65) → Below w.heap.size w w' := by
    rintro w' rfl
    exact ((Below.refl _ _).alloc (Nat.le_refl _) _).alloc (by simp) _
  by_cases h1 : y < v
  · have HV : Hid (lessB y x v u = true) := by unfold lessB; rw [decide_eq_true h1]; rfl
    go_enter Try.func104, Try.ntmps104
    go_wp2
    all_goals (go_ret; exact ⟨ret_b HV.out.symm, hb _ rfl⟩)
  · by_cases h2 : y = v
    · subst h2
      by_cases h3 : x < u
      · have HV := Lib.hid (show lessB y x y u = true by unfold lessB; rw [decide_eq_true h3]; simp)
        go_enter Try.func104, Try.ntmps104
        go_wp2
        all_goals (go_ret; exact ⟨ret_b HV.out.symm, hb _ rfl⟩)
      · have HV := Lib.hid (show lessB y x y u = false by unfold lessB; rw [decide_eq_false h3]; simp)
        go_enter Try.func104, Try.ntmps104
        go_wp2
        all_goals (go_ret; exact ⟨ret_b HV.out.symm, hb _ rfl⟩)
    · have HV : Hid (lessB y x v u = false) := by unfold lessB; rw [decide_eq_false h1, decide_eq_false h2]; rfl
      go_enter Try.func104, Try.ntmps104
      go_wp2
      all_goals (go_ret; exact ⟨ret_b HV.out.symm, hb _ rfl⟩)
theorem compP_less (x y u v : Int) (w : World) (h : lessB y x v u = true) : Calls Try.prog 101 #[.agg #[.int .i64 x, .int .i64 y], .agg #[.int .i64 u, .int .i64 v]] w fun e w' => e = .returned (.int .i64 (-1)) ∧ Below w.heap.size w w' := by
  have hb : ∀ w' : World, w' = (w.alloc (.cells #[.int .i64 x, .int .i64 y] 65)).alloc (.cells #[.int .i64 u, .int .i64 v] 65) → Below w.heap.size w w' := by
    rintro w' rfl
    exact ((Below.refl _ _).alloc (Nat.le_refl _) _).alloc (by simp) _
  unfold lessB at h
  by_cases h1 : y < v
  · clear h
    go_enter Try.func101, Try.ntmps101
    go_wp2
    all_goals (go_ret; exact ⟨rfl, hb _ rfl⟩)
  · rw [decide_eq_false h1, Bool.false_or, Bool.and_eq_true] at h
    obtain ⟨h2, h3⟩ := h
    have h2 := of_decide_eq_true h2
    have h3 := of_decide_eq_true h3
    subst h2
    go_enter Try.func101, Try.ntmps101
    go_wp2
    all_goals (go_ret; exact ⟨rfl, hb _ rfl⟩)
theorem compP_no (x y u v : Int) (w : World) (h : lessB y x v u = false) : Calls Try.prog 101 #[.agg #[.int .i64 x, .int .i64 y], .agg #[.int .i64 u, .int .i64 v]] w fun e w' => ∃ z, e = .returned (.int .i64 z) ∧ 0 ≤ z ∧ Below w.heap.size w w' := by
  have hb : ∀ w' : World, w' = (w.alloc (.cells #[.int .i64 x, .int .i64 y] 65)).alloc (.cells #[.int .i64 u, .int .i64 v] 65) → Below w.heap.size w w' := by
    rintro w' rfl
    exact ((Below.refl _ _).alloc (Nat.le_refl _) _).alloc (by simp) _
  unfold lessB at h
  rw [Bool.or_eq_false_iff] at h
  obtain ⟨h1, h⟩ := h
  have h1 := of_decide_eq_false h1
  by_cases h2 : y = v
  · subst h2
    simp only [decide_true, Bool.true_and] at h
    have h3 := of_decide_eq_false h
    clear h
    by_cases h4 : x = u
    · subst h4
      go_enter Try.func101, Try.ntmps101
      go_wp2
      all_goals (go_ret; exact ⟨0, rfl, by omega, hb _ rfl⟩)
    · go_enter Try.func101, Try.ntmps101
      go_wp2
      all_goals (go_ret; exact ⟨1, rfl, by omega, hb _ rfl⟩)
  · clear h
    go_enter Try.func101, Try.ntmps101
    go_wp2
    all_goals (go_ret; exact ⟨1, rfl, by omega, hb _ rfl⟩)
attribute [local irreducible] tm pt lessB in
set_option maxHeartbeats 1600000 in
theorem spec_CylOk (s t : Int) (A : Option Addr) (c : Nat) (l : List (Int × Int)) (w : World) (hrd : RdN w A l) (hl : l.length ≤ 1000000000) :
    Calls Try.prog 84 #[.agg #[.int .i64 s, .int .i64 t, .slice A l.length c]] w fun e w' => e = .returned (.bool (cylB s t l)) ∧ Below w.heap.size w w' := by
  obtain ⟨W0, hW0⟩ : ∃ W, W = w.alloc (.cells #[.int .i64 s, .int .i64 t, .slice A l.length c] 56) := ⟨_, rfl⟩
  have hb0 : Below w.heap.size w W0 := by rw [hW0]; exact (Below.refl _ _).alloc (Nat.le_refl _) _
  have s0 : w.heap.size < W0.heap.size := by rw [hW0]; simp
  have a0 : W0.cell? ⟨w.heap.size, 0, none⟩ = some (.int .i64 s) := by rw [hW0]; simp [go_sem]
  have a1 : W0.cell? ⟨w.heap.size, 1, none⟩ = some (.int .i64 t) := by rw [hW0]; simp [go_sem]
  have a2 : W0.cell? ⟨w.heap.size, 2, none⟩ = some (.slice A l.length c) := by rw [hW0]; simp [go_sem]
  have hrd0 := hrd.below hb0 rfl
  have HW0 := Lib.hid hW0
  clear hW0 hrd
  by_cases hs : 4 ≤ s ∧ s ≤ 96
  · by_cases ht : 1 ≤ t ∧ t ≤ 100
    · by_cases h100 : l.length ≤ 100
      · have HC := Lib.hid (fun h => cylB_all (l := l) hs ht h100 h)
        have HNo := Lib.hid (fun (k : Nat) (hk : k < l.length) h => cylB_no (s := s) (t := t) hk h)
        have hs1 := hs.1
        have hs2 := hs.2
        have ht1 := ht.1
        have ht2 := ht.2
        have h100i : (l.length : Int) ≤ 100 := by omega
        have h100d : decide ((100 : Int) < (l.length : Int)) = false := decide_eq_false (by omega)
        go_enter Try.func84, Try.ntmps84
        go_wp2_with fail
        rw [← HW0.out]
        refine (in_yes _ _ _ _ hs).mono ?_
        rintro e wz ⟨rfl, rfl⟩
        go_wp2_with fail
        refine (in_yes _ _ _ _ ht).mono ?_
        rintro e wz ⟨rfl, rfl⟩
        go_wp2
        go_loopw [3] (fun i wr => ∃ k : Nat, k ≤ l.length ∧ i = .int .i64 k ∧ cylTo s t l k ∧ Below W0.heap.size W0 wr) (fun i _ => l.length - (intOf i).toNat)
        case atStart => exact ⟨0, by omega, rfl, fun _ h => by omega, Below.refl _ _⟩
        case round =>
          obtain ⟨k, hk, rfl, htt, hb⟩ := hrel
          have hbs := hb.size
          have e0 := (hb.cell (p := ⟨w.heap.size, 0, none⟩) s0).trans a0
          have e1 := (hb.cell (p := ⟨w.heap.size, 1, none⟩) s0).trans a1
          have e2 := (hb.cell (p := ⟨w.heap.size, 2, none⟩) s0).trans a2
          by_cases hlt : k < l.length
          · obtain ⟨b, o, rfl, lb, hc⟩ := hrd0 (by omega)
            have k1 := (hb.cell (p := ⟨b, o + k * 2, none⟩) lb).trans (hc k hlt).1
            have k2 := (hb.cell (p := ⟨b, o + k * 2 + 1, none⟩) lb).trans (hc k hlt).2
            have h0i : (0 : Int) ≤ (k : Int) := by omega
            have h0j : (k : Int) < (l.length : Int) := by omega
            have qr : w.heap.size < wr.heap.size := by omega
            have br : b < wr.heap.size := by omega
            obtain ⟨W, hW⟩ : ∃ W, W = wr.alloc (Obj.cells #[.int .i64 (tm l k), .int .i64 (pt l k)] 65) := ⟨_, rfl⟩
            have hBW : Below wr.heap.size wr W := by rw [hW]; exact (Below.refl _ _).alloc (Nat.le_refl _) _
            have n1 : W.cell? ⟨wr.heap.size, 0, none⟩ = some (.int .i64 (tm l k)) := by rw [hW]; simp [go_sem]
            have n2 : W.cell? ⟨wr.heap.size, 1, none⟩ = some (.int .i64 (pt l k)) := by rw [hW]; simp [go_sem]
            have nb : wr.heap.size < W.heap.size := by rw [hW]; simp
            have x0 := (hBW.cell (p := ⟨w.heap.size, 0, none⟩) qr).trans e0
            have x1 := (hBW.cell (p := ⟨w.heap.size, 1, none⟩) qr).trans e1
            have x2 := (hBW.cell (p := ⟨w.heap.size, 2, none⟩) qr).trans e2
            have q0 : w.heap.size < W.heap.size := by omega
            have mW : b < W.heap.size := by omega
            have hbW := hb.trans (hBW.mono hbs)
            have hBs2 : W0.heap.size ≤ W.heap.size := hbW.size
            have hfin := hb0.trans (hbW.mono (Nat.le_of_lt s0))
            have HW := Lib.hid hW
            have hwt : IntKind.i64.wrap (t - 1) = t - 1 := IntWalk.i64_in _ (by omega)
            have hws : IntKind.i64.wrap (s - 1) = s - 1 := IntWalk.i64_in _ (by omega)
            have HWT := Lib.hid hwt
            have HWS := Lib.hid hws
            have hHN := HNo.out k hlt
            have HN := Lib.hid hHN
            clear hW hwt hws hHN
            by_cases hx : 0 ≤ tm l k ∧ tm l k ≤ t - 1
            · by_cases hy : 0 ≤ pt l k ∧ pt l k ≤ s - 1
              · rcases Nat.eq_zero_or_pos k with h0 | h0
                · have HT := Lib.hid (htt.succ (show cylAt s t l k from ⟨hx, hy, fun h => by omega⟩))
                  have h0' : ¬ (0 : Int) < (k : Int) := by omega
                  have h0d : decide ((0 : Int) < (k : Int)) = false := decide_eq_false h0'
                  have h0e : decide (0 < k) = false := decide_eq_false (by omega)
                  clear hc hrd0 h0 hBW e0 e1
                  go_upto_region 7 with (fail)
                  rw [← HW.out]
                  have hwt := HWT.out
                  have hws := HWS.out
                  go_quiet ((go_at_call 93; exact quiet_u (in_yes _ _ _ _ (by assumption))))
                  clear hwt hws
                  go_wp2
                  go_roundw
                  case rel => exact ⟨k + 1, by omega, by go_num, HT.out, bel_drewN hbW _⟩
                  case measure => simp [intOf]; omega
                · obtain ⟨m, hm⟩ : ∃ m, k = m + 1 := ⟨k - 1, by omega⟩
                  have n3 := (hbW.cell (p := ⟨b, o + m * 2, none⟩) lb).trans (hc m (by omega)).1
                  have n4 := (hbW.cell (p := ⟨b, o + m * 2 + 1, none⟩) lb).trans (hc m (by omega)).2
                  have h0f : (0 : Int) < (k : Int) := by omega
                  have h0g : (0 : Int) ≤ (m : Int) := by omega
                  have h0h : (m : Int) < (l.length : Int) := by omega
                  have HWr := Lib.hid (show IntKind.i64.wrap ((k : Int) - 1) = (m : Int) by rw [show ((k : Int) - 1) = (m : Int) by omega]; exact IntWalk.i64_in _ (by omega))
                  have HA := Lib.hid (pl_m (l := l) hm)
                  clear hm
                  cases hB : lessB (pt l m) (tm l m) (pt l k) (tm l k)
                  · have HB := Lib.hid hB
                    have HF := Lib.hid (HN.out (fun h : cylAt s t l k => by have := h.2.2 h0; rw [HA.out, hB] at this; cases this))
                    clear hc hrd0 hB hBW e0 e1
                    go_upto_region 7 with (fail)
                    rw [← HW.out]
                    have hwt := HWT.out
                    have hws := HWS.out
                    have hwr := HWr.out
                    go_region_held3 (fun w' => w'.cell? ⟨w.heap.size, 0, none⟩ = some (.int .i64 s) ∧ w'.cell? ⟨w.heap.size, 1, none⟩ = some (.int .i64 t) ∧ w'.cell? ⟨w.heap.size, 2, none⟩ = some (.slice (some ⟨b, o, none⟩) l.length c) ∧ w'.cell? ⟨wr.heap.size, 0, none⟩ = some (.int .i64 (tm l k)) ∧ w'.cell? ⟨wr.heap.size, 1, none⟩ = some (.int .i64 (pt l k)) ∧ w'.cell? ⟨b, o + m * 2, none⟩ = some (.int .i64 (tm l m)) ∧ w'.cell? ⟨b, o + m * 2 + 1, none⟩ = some (.int .i64 (pt l m)) ∧ Below W.heap.size W w') (first | exact held7_start x0 x1 x2 n1 n2 n3 n4 rfl | assumption | exact held7_keep q0 q0 q0 nb nb mW mW (by assumption) hbz)
                    (first | (go_at_call 93; refine (in_yes _ _ _ _ (by assumption)).mono ?_; rintro e wz ⟨rfl, rfl⟩) | (go_at_call 104; refine (less6_any _ _ _ _ _).mono ?_; rintro e wz ⟨rfl, hbz⟩; rw [HB.out]))
                    clear hwr hwt hws
                    rename_i hH
                    have hb2 := hfin.trans ((held7_bel hH).mono hfin.size)
                    go_wp2
                    go_ret
                    exact ⟨ret_b HF.out.symm, hb2⟩
                  · have HB := Lib.hid hB
                    have HT := Lib.hid (htt.succ (show cylAt s t l k from ⟨hx, hy, fun _ => by rw [HA.out, hB]⟩))
                    clear hc hrd0 hB hBW e0 e1
                    go_upto_region 7 with (fail)
                    rw [← HW.out]
                    have hwt := HWT.out
                    have hws := HWS.out
                    have hwr := HWr.out
                    go_region_held3 (fun w' => w'.cell? ⟨w.heap.size, 0, none⟩ = some (.int .i64 s) ∧ w'.cell? ⟨w.heap.size, 1, none⟩ = some (.int .i64 t) ∧ w'.cell? ⟨w.heap.size, 2, none⟩ = some (.slice (some ⟨b, o, none⟩) l.length c) ∧ w'.cell? ⟨wr.heap.size, 0, none⟩ = some (.int .i64 (tm l k)) ∧ w'.cell? ⟨wr.heap.size, 1, none⟩ = some (.int .i64 (pt l k)) ∧ w'.cell? ⟨b, o + m * 2, none⟩ = some (.int .i64 (tm l m)) ∧ w'.cell? ⟨b, o + m * 2 + 1, none⟩ = some (.int .i64 (pt l m)) ∧ Below W.heap.size W w') (first | exact held7_start x0 x1 x2 n1 n2 n3 n4 rfl | assumption | exact held7_keep q0 q0 q0 nb nb mW mW (by assumption) hbz)
                    (first | (go_at_call 93; refine (in_yes _ _ _ _ (by assumption)).mono ?_; rintro e wz ⟨rfl, rfl⟩) | (go_at_call 104; refine (less6_any _ _ _ _ _).mono ?_; rintro e wz ⟨rfl, hbz⟩; rw [HB.out]))
                    clear hwr hwt hws
                    rename_i hH
                    have hb2 := hbW.trans ((held7_bel hH).mono hBs2)
                    go_wp2
                    go_roundw
                    case rel => exact ⟨k + 1, by omega, by go_num, HT.out, hb2⟩
                    case measure => simp [intOf]; omega
              · have HF := Lib.hid (HN.out (fun h : cylAt s t l k => hy h.2.1))
                clear hc hrd0 hBW e0 e1
                go_upto_region 7 with (fail)
                rw [← HW.out]
                have hwt := HWT.out
                have hws := HWS.out
                go_quiet ((go_at_call 93; first | exact quiet_u (in_yes _ _ _ _ (by assumption)) | exact quiet_u (in_no _ _ _ _ (by assumption))))
                clear hwt hws
                go_wp2
                go_ret
                exact ⟨ret_b HF.out.symm, bel_drewN hfin _⟩
            · have HF := Lib.hid (HN.out (fun h : cylAt s t l k => hx h.1))
              clear hc hrd0 hBW e0 e1
              go_upto_region 7 with (fail)
              rw [← HW.out]
              have hwt := HWT.out
              have hws := HWS.out
              go_quiet ((go_at_call 93; exact quiet_u (in_no _ _ _ _ hx)))
              clear hwt hws
              go_wp2
              go_ret
              exact ⟨ret_b HF.out.symm, bel_drewN hfin _⟩
          · obtain rfl : k = l.length := by omega
            have HF := Lib.hid (HC.out htt)
            have hfin := hb0.trans (hb.mono (Nat.le_of_lt s0))
            clear htt
            go_wp2
            go_ret
            exact ⟨ret_b HF.out.symm, hfin⟩
      · have HF := Lib.hid (cylB_no3 (s := s) (t := t) h100)
        have h100i : (100 : Int) < (l.length : Int) := by omega
        go_enter Try.func84, Try.ntmps84
        go_wp2_with fail
        rw [← HW0.out]
        refine (in_yes _ _ _ _ hs).mono ?_
        rintro e wz ⟨rfl, rfl⟩
        go_wp2_with fail
        refine (in_yes _ _ _ _ ht).mono ?_
        rintro e wz ⟨rfl, rfl⟩
        go_wp2
        go_ret
        exact ⟨ret_b HF.out.symm, hb0⟩
    · have HF := Lib.hid (cylB_no2 (s := s) (l := l) ht)
      go_enter Try.func84, Try.ntmps84
      go_wp2_with fail
      rw [← HW0.out]
      refine (in_yes _ _ _ _ hs).mono ?_
      rintro e wz ⟨rfl, rfl⟩
      go_wp2_with fail
      refine (in_no _ _ _ _ ht).mono ?_
      rintro e wz ⟨rfl, rfl⟩
      go_wp2
      go_ret
      exact ⟨ret_b HF.out.symm, hb0⟩
  · have HF := Lib.hid (cylB_no1 (t := t) (l := l) hs)
    go_enter Try.func84, Try.ntmps84
    go_wp2_with fail
    rw [← HW0.out]
    refine (in_no _ _ _ _ hs).mono ?_
    rintro e wz ⟨rfl, rfl⟩
    go_wp2
    go_ret
    exact ⟨ret_b HF.out.symm, hb0⟩
attribute [local irreducible] tm pt lessB in
set_option maxHeartbeats 1600000 in
theorem impl_CylOk (s t : Int) (A : Option Addr) (c : Nat) (l : List (Int × Int)) (w : World) (hrd : RdN w A l) (hl : l.length ≤ 1000000000) :
    Calls Try.prog 71 #[.agg #[.int .i64 s, .int .i64 t, .slice A l.length c]] w fun e w' => e = .returned (.bool (cylB s t l)) ∧ Below w.heap.size w w' := by
  obtain ⟨W0, hW0⟩ : ∃ W, W = w.alloc (.cells #[.int .i64 s, .int .i64 t, .slice A l.length c] 56) := ⟨_, rfl⟩
  have hb0 : Below w.heap.size w W0 := by rw [hW0]; exact (Below.refl _ _).alloc (Nat.le_refl _) _
  have s0 : w.heap.size < W0.heap.size := by rw [hW0]; simp
  have a0 : W0.cell? ⟨w.heap.size, 0, none⟩ = some (.int .i64 s) := by rw [hW0]; simp [go_sem]
  have a1 : W0.cell? ⟨w.heap.size, 1, none⟩ = some (.int .i64 t) := by rw [hW0]; simp [go_sem]
  have a2 : W0.cell? ⟨w.heap.size, 2, none⟩ = some (.slice A l.length c) := by rw [hW0]; simp [go_sem]
  have hrd0 := hrd.below hb0 rfl
  have HW0 := Lib.hid hW0
  clear hW0 hrd
  by_cases hs : 4 ≤ s ∧ s ≤ 96
  · by_cases ht : 1 ≤ t ∧ t ≤ 100
    · by_cases h100 : l.length ≤ 100
      · have HC := Lib.hid (fun h => cylB_all (l := l) hs ht h100 h)
        have HNo := Lib.hid (fun (k : Nat) (hk : k < l.length) h => cylB_no (s := s) (t := t) hk h)
        have hs1 := hs.1
        have hs2 := hs.2
        have ht1 := ht.1
        have ht2 := ht.2
        have h100i : (l.length : Int) ≤ 100 := by omega
        have h100d : decide ((100 : Int) < (l.length : Int)) = false := decide_eq_false (by omega)
        go_enter Try.func71, Try.ntmps71
        go_wp2_with fail
        rw [← HW0.out]
        refine (wi_yes _ _ _ _ hs).mono ?_
        rintro e wz ⟨rfl, rfl⟩
        go_wp2_with fail
        refine (wi_yes _ _ _ _ ht).mono ?_
        rintro e wz ⟨rfl, rfl⟩
        go_wp2
        go_loopw [24] (fun i wr => ∃ k : Nat, k ≤ l.length ∧ i = .int .i64 k ∧ cylTo s t l k ∧ Below W0.heap.size W0 wr) (fun i _ => l.length - (intOf i).toNat)
        case atStart => exact ⟨0, by omega, rfl, fun _ h => by omega, Below.refl _ _⟩
        case round =>
          obtain ⟨k, hk, rfl, htt, hb⟩ := hrel
          have hbs := hb.size
          have e0 := (hb.cell (p := ⟨w.heap.size, 0, none⟩) s0).trans a0
          have e1 := (hb.cell (p := ⟨w.heap.size, 1, none⟩) s0).trans a1
          have e2 := (hb.cell (p := ⟨w.heap.size, 2, none⟩) s0).trans a2
          by_cases hlt : k < l.length
          · obtain ⟨b, o, rfl, lb, hc⟩ := hrd0 (by omega)
            have k1 := (hb.cell (p := ⟨b, o + k * 2, none⟩) lb).trans (hc k hlt).1
            have k2 := (hb.cell (p := ⟨b, o + k * 2 + 1, none⟩) lb).trans (hc k hlt).2
            have h0i : (0 : Int) ≤ (k : Int) := by omega
            have h0j : (k : Int) < (l.length : Int) := by omega
            have qr : w.heap.size < wr.heap.size := by omega
            have br : b < wr.heap.size := by omega
            obtain ⟨W, hW⟩ : ∃ W, W = wr.alloc (Obj.cells #[.int .i64 (tm l k), .int .i64 (pt l k)] 65) := ⟨_, rfl⟩
            have hBW : Below wr.heap.size wr W := by rw [hW]; exact (Below.refl _ _).alloc (Nat.le_refl _) _
            have n1 : W.cell? ⟨wr.heap.size, 0, none⟩ = some (.int .i64 (tm l k)) := by rw [hW]; simp [go_sem]
            have n2 : W.cell? ⟨wr.heap.size, 1, none⟩ = some (.int .i64 (pt l k)) := by rw [hW]; simp [go_sem]
            have nb : wr.heap.size < W.heap.size := by rw [hW]; simp
            have x0 := (hBW.cell (p := ⟨w.heap.size, 0, none⟩) qr).trans e0
            have x1 := (hBW.cell (p := ⟨w.heap.size, 1, none⟩) qr).trans e1
            have x2 := (hBW.cell (p := ⟨w.heap.size, 2, none⟩) qr).trans e2
            have q0 : w.heap.size < W.heap.size := by omega
            have mW : b < W.heap.size := by omega
            have hbW := hb.trans (hBW.mono hbs)
            have hBs2 : W0.heap.size ≤ W.heap.size := hbW.size
            have hfin := hb0.trans (hbW.mono (Nat.le_of_lt s0))
            have HW := Lib.hid hW
            have hwt : IntKind.i64.wrap (t - 1) = t - 1 := IntWalk.i64_in _ (by omega)
            have hws : IntKind.i64.wrap (s - 1) = s - 1 := IntWalk.i64_in _ (by omega)
            have HWT := Lib.hid hwt
            have HWS := Lib.hid hws
            have hHN := HNo.out k hlt
            have HN := Lib.hid hHN
            clear hW hwt hws hHN
            by_cases hx : 0 ≤ tm l k ∧ tm l k ≤ t - 1
            · by_cases hy : 0 ≤ pt l k ∧ pt l k ≤ s - 1
              · rcases Nat.eq_zero_or_pos k with h0 | h0
                · have HT := Lib.hid (htt.succ (show cylAt s t l k from ⟨hx, hy, fun h => by omega⟩))
                  have h0' : ¬ (0 : Int) < (k : Int) := by omega
                  have h0d : decide ((0 : Int) < (k : Int)) = false := decide_eq_false h0'
                  have h0e : decide (0 < k) = false := decide_eq_false (by omega)
                  clear hc hrd0 h0 hBW e0 e1
                  go_upto_region 6 with (fail)
                  rw [← HW.out]
                  have hwt := HWT.out
                  have hws := HWS.out
                  go_wp2_with fail
                  refine (wi_yes _ _ _ _ hx).mono ?_
                  rintro e wz ⟨rfl, rfl⟩
                  go_wp2_with fail
                  refine (wi_yes _ _ _ _ hy).mono ?_
                  rintro e wz ⟨rfl, rfl⟩
                  clear hwt hws
                  go_wp2_with fail
                  go_quiet (fail)
                  go_wp2
                  go_roundw
                  case rel => exact ⟨k + 1, by omega, by go_num, HT.out, bel_drewN hbW _⟩
                  case measure => simp [intOf]; omega
                · obtain ⟨m, hm⟩ : ∃ m, k = m + 1 := ⟨k - 1, by omega⟩
                  have n3 := (hbW.cell (p := ⟨b, o + m * 2, none⟩) lb).trans (hc m (by omega)).1
                  have n4 := (hbW.cell (p := ⟨b, o + m * 2 + 1, none⟩) lb).trans (hc m (by omega)).2
                  have h0f : (0 : Int) < (k : Int) := by omega
                  have h0g : (0 : Int) ≤ (m : Int) := by omega
                  have h0h : (m : Int) < (l.length : Int) := by omega
                  have HWr := Lib.hid (show IntKind.i64.wrap ((k : Int) - 1) = (m : Int) by rw [show ((k : Int) - 1) = (m : Int) by omega]; exact IntWalk.i64_in _ (by omega))
                  have HA := Lib.hid (pl_m (l := l) hm)
                  clear hm
                  cases hB : lessB (pt l m) (tm l m) (pt l k) (tm l k)
                  · have HB := Lib.hid hB
                    have HF := Lib.hid (HN.out (fun h : cylAt s t l k => by have := h.2.2 h0; rw [HA.out, hB] at this; cases this))
                    clear hc hrd0 hB hBW e0 e1
                    go_upto_region 6 with (fail)
                    rw [← HW.out]
                    have hwt := HWT.out
                    have hws := HWS.out
                    go_wp2_with fail
                    refine (wi_yes _ _ _ _ hx).mono ?_
                    rintro e wz ⟨rfl, rfl⟩
                    go_wp2_with fail
                    refine (wi_yes _ _ _ _ hy).mono ?_
                    rintro e wz ⟨rfl, rfl⟩
                    clear hwt hws
                    go_wp2_with fail
                    have hwr := HWr.out
                    go_region_held3 (fun w' => w'.cell? ⟨w.heap.size, 0, none⟩ = some (.int .i64 s) ∧ w'.cell? ⟨w.heap.size, 1, none⟩ = some (.int .i64 t) ∧ w'.cell? ⟨w.heap.size, 2, none⟩ = some (.slice (some ⟨b, o, none⟩) l.length c) ∧ w'.cell? ⟨wr.heap.size, 0, none⟩ = some (.int .i64 (tm l k)) ∧ w'.cell? ⟨wr.heap.size, 1, none⟩ = some (.int .i64 (pt l k)) ∧ w'.cell? ⟨b, o + m * 2, none⟩ = some (.int .i64 (tm l m)) ∧ w'.cell? ⟨b, o + m * 2 + 1, none⟩ = some (.int .i64 (pt l m)) ∧ Below W.heap.size W w') (first | exact held7_start x0 x1 x2 n1 n2 n3 n4 rfl | assumption | exact held7_keep q0 q0 q0 nb nb mW mW (by assumption) hbz)
                    (first | (go_at_call 101; refine (compP_no _ _ _ _ _ HB.out).mono ?_; rintro e wz ⟨z, rfl, hz, hbz⟩))
                    clear hwr
                    rename_i hH
                    have hb2 := hfin.trans ((held7_bel hH).mono hfin.size)
                    go_wp2
                    go_ret
                    exact ⟨ret_b HF.out.symm, hb2⟩
                  · have HB := Lib.hid hB
                    have HT := Lib.hid (htt.succ (show cylAt s t l k from ⟨hx, hy, fun _ => by rw [HA.out, hB]⟩))
                    clear hc hrd0 hB hBW e0 e1
                    go_upto_region 6 with (fail)
                    rw [← HW.out]
                    have hwt := HWT.out
                    have hws := HWS.out
                    go_wp2_with fail
                    refine (wi_yes _ _ _ _ hx).mono ?_
                    rintro e wz ⟨rfl, rfl⟩
                    go_wp2_with fail
                    refine (wi_yes _ _ _ _ hy).mono ?_
                    rintro e wz ⟨rfl, rfl⟩
                    clear hwt hws
                    go_wp2_with fail
                    have hwr := HWr.out
                    go_region_held3 (fun w' => w'.cell? ⟨w.heap.size, 0, none⟩ = some (.int .i64 s) ∧ w'.cell? ⟨w.heap.size, 1, none⟩ = some (.int .i64 t) ∧ w'.cell? ⟨w.heap.size, 2, none⟩ = some (.slice (some ⟨b, o, none⟩) l.length c) ∧ w'.cell? ⟨wr.heap.size, 0, none⟩ = some (.int .i64 (tm l k)) ∧ w'.cell? ⟨wr.heap.size, 1, none⟩ = some (.int .i64 (pt l k)) ∧ w'.cell? ⟨b, o + m * 2, none⟩ = some (.int .i64 (tm l m)) ∧ w'.cell? ⟨b, o + m * 2 + 1, none⟩ = some (.int .i64 (pt l m)) ∧ Below W.heap.size W w') (first | exact held7_start x0 x1 x2 n1 n2 n3 n4 rfl | assumption | exact held7_keep q0 q0 q0 nb nb mW mW (by assumption) hbz)
                    (first | (go_at_call 101; refine (compP_less _ _ _ _ _ HB.out).mono ?_; rintro e wz ⟨rfl, hbz⟩))
                    clear hwr
                    rename_i hH
                    have hb2 := hbW.trans ((held7_bel hH).mono hBs2)
                    go_wp2
                    go_roundw
                    case rel => exact ⟨k + 1, by omega, by go_num, HT.out, hb2⟩
                    case measure => simp [intOf]; omega
              · have HF := Lib.hid (HN.out (fun h : cylAt s t l k => hy h.2.1))
                clear hc hrd0 hBW e0 e1
                go_upto_region 6 with (fail)
                rw [← HW.out]
                have hwt := HWT.out
                have hws := HWS.out
                go_wp2_with fail
                refine (wi_yes _ _ _ _ hx).mono ?_
                rintro e wz ⟨rfl, rfl⟩
                go_wp2_with fail
                refine (wi_no _ _ _ _ hy).mono ?_
                rintro e wz ⟨rfl, rfl⟩
                clear hwt hws
                go_wp2
                go_ret
                exact ⟨ret_b HF.out.symm, hfin⟩
            · have HF := Lib.hid (HN.out (fun h : cylAt s t l k => hx h.1))
              clear hc hrd0 hBW e0 e1
              go_upto_region 6 with (fail)
              rw [← HW.out]
              have hwt := HWT.out
              have hws := HWS.out
              go_wp2_with fail
              refine (wi_no _ _ _ _ hx).mono ?_
              rintro e wz ⟨rfl, rfl⟩
              clear hwt hws
              go_wp2
              go_ret
              exact ⟨ret_b HF.out.symm, hfin⟩
          · obtain rfl : k = l.length := by omega
            have HF := Lib.hid (HC.out htt)
            have hfin := hb0.trans (hb.mono (Nat.le_of_lt s0))
            clear htt
            go_wp2
            go_ret
            exact ⟨ret_b HF.out.symm, hfin⟩
      · have HF := Lib.hid (cylB_no3 (s := s) (t := t) h100)
        have h100i : (100 : Int) < (l.length : Int) := by omega
        go_enter Try.func71, Try.ntmps71
        go_wp2_with fail
        rw [← HW0.out]
        refine (wi_yes _ _ _ _ hs).mono ?_
        rintro e wz ⟨rfl, rfl⟩
        go_wp2_with fail
        refine (wi_yes _ _ _ _ ht).mono ?_
        rintro e wz ⟨rfl, rfl⟩
        go_wp2
        go_ret
        exact ⟨ret_b HF.out.symm, hb0⟩
    · have HF := Lib.hid (cylB_no2 (s := s) (l := l) ht)
      go_enter Try.func71, Try.ntmps71
      go_wp2_with fail
      rw [← HW0.out]
      refine (wi_yes _ _ _ _ hs).mono ?_
      rintro e wz ⟨rfl, rfl⟩
      go_wp2_with fail
      refine (wi_no _ _ _ _ ht).mono ?_
      rintro e wz ⟨rfl, rfl⟩
      go_wp2
      go_ret
      exact ⟨ret_b HF.out.symm, hb0⟩
  · have HF := Lib.hid (cylB_no1 (t := t) (l := l) hs)
    go_enter Try.func71, Try.ntmps71
    go_wp2_with fail
    rw [← HW0.out]
    refine (wi_no _ _ _ _ hs).mono ?_
    rintro e wz ⟨rfl, rfl⟩
    go_wp2
    go_ret
    exact ⟨ret_b HF.out.symm, hb0⟩
end Go.Proofs.Ytkbceojeahninaa
