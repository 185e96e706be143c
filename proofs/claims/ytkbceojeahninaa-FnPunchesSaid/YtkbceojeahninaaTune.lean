/- When a list of notes is a tune: the program's TuneOk and the reference's, and a note before a note. -/
import Derived.Test.YtkbceojeahninaaBase
import Derived.Test.YtkbceojeahninaaIn
import Derived.Test.YtkbceojeahninaaRows
import Derived.Deep.QuietTactic
import Derived.BigQuiet
import Derived.Deep.RegionHeld3
import Derived.Outline
namespace Go.Proofs.Ytkbceojeahninaa
open Go.ChangeShapes Go.WideShapes Go.ChangeAt Go.RowKit
set_option linter.unusedVariables false
/-- A note stands before a note. -/
def lessB (x y u v : Int) : Bool := decide (x < u) || (decide (x = u) && decide (y < v))
def lessAt (l : List (Int × Int)) (k : Nat) : Bool := lessB (tm l (k - 1)) (pt l (k - 1)) (tm l k) (pt l k)
def tuneAt (l : List (Int × Int)) (k : Nat) : Prop := (0 ≤ tm l k ∧ tm l k ≤ 1000) ∧ (0 ≤ pt l k ∧ pt l k ≤ 60) ∧ (0 < k → lessAt l k = true)
def tuneTo (l : List (Int × Int)) (n : Nat) : Prop := ∀ k, k < n → tuneAt l k
def tuneP (l : List (Int × Int)) : Prop := tuneTo l l.length ∧ l.length ≤ 40
noncomputable instance tuneDec (l : List (Int × Int)) : Decidable (tuneP l) := Classical.propDecidable _
noncomputable def tuneB (l : List (Int × Int)) : Bool := decide (tuneP l)
theorem tuneB_no {l : List (Int × Int)} {k : Nat} (hk : k < l.length) (h : ¬ tuneAt l k) : tuneB l = false := decide_eq_false fun hp => h (hp.1 k hk)
theorem tuneB_big {l : List (Int × Int)} (h : ¬ l.length ≤ 40) : tuneB l = false := decide_eq_false fun hp => h hp.2
theorem tuneB_all {l : List (Int × Int)} (h : tuneTo l l.length) : tuneB l = decide (l.length ≤ 40) := by
  by_cases h4 : l.length ≤ 40
  · rw [decide_eq_true h4]; exact decide_eq_true ⟨h, h4⟩
  · rw [decide_eq_false h4]; exact tuneB_big h4
theorem tuneTo.succ {l : List (Int × Int)} {k : Nat} (h : tuneTo l k) (hk : tuneAt l k) : tuneTo l (k + 1) := by
  intro j hj
  by_cases e : j = k
  · rw [e]; exact hk
  · exact h j (by omega)
theorem ret_b {a b : Bool} (h : a = b) : Ending.returned (.bool a) = Ending.returned (.bool b) := by rw [h]
theorem quiet_u {P : Program} {f : FuncId} {args : Array Value} {w : World} {n : Nat} {v : Value} (h : Calls P f args (w.drewN n) fun e w' => e = .returned v ∧ w.drewN n = w') :
    Calls P f args (w.drewN n) fun e w'' => e = .returned v ∧ ∃ m, w'' = w.drewN m := h.mono fun _ _ ⟨he, hm⟩ => ⟨he, n, hm.symm⟩
theorem at_m {l : List (Int × Int)} {k m : Nat} (h : k = m + 1) : lessAt l k = lessB (tm l m) (pt l m) (tm l k) (pt l k) := by
  unfold lessAt; rw [show k - 1 = m by omega]
theorem less_any (x y u v : Int) (w : World) : Calls Try.prog 94 #[.agg #[.int .i64 x, .int .i64 y], .agg #[.int .i64 u, .int .i64 v]] w fun e w' => e = .returned (.bool (lessB x y u v)) ∧ Below w.heap.size w w' := by
  have hb : ∀ w' : World, w' = (w.alloc (.cells #[.int .i64 x, .int .i64 y] 37)).alloc (.cells #[.int .i64 u, .int .i64 v] 37) → Below w.heap.size w w' := by
    rintro w' rfl
    exact ((Below.refl _ _).alloc (Nat.le_refl _) _).alloc (by simp) _
  by_cases h1 : x < u
  · have HV : Hid (lessB x y u v = true) := by unfold lessB; rw [decide_eq_true h1]; rfl
    go_enter Try.func94, Try.ntmps94
    go_wp2
    all_goals (go_ret; exact ⟨ret_b HV.out.symm, hb _ rfl⟩)
  · by_cases h2 : x = u
    · subst h2
      by_cases h3 : y < v
      · have HV := Lib.hid (show lessB x y x v = true by unfold lessB; rw [decide_eq_true h3]; simp)
        go_enter Try.func94, Try.ntmps94
        go_wp2
        all_goals (go_ret; exact ⟨ret_b HV.out.symm, hb _ rfl⟩)
      · have HV := Lib.hid (show lessB x y x v = false by unfold lessB; rw [decide_eq_false h3]; simp)
        go_enter Try.func94, Try.ntmps94
        go_wp2
        all_goals (go_ret; exact ⟨ret_b HV.out.symm, hb _ rfl⟩)
    · have HV : Hid (lessB x y u v = false) := by unfold lessB; rw [decide_eq_false h1, decide_eq_false h2]; rfl
      go_enter Try.func94, Try.ntmps94
      go_wp2
      all_goals (go_ret; exact ⟨ret_b HV.out.symm, hb _ rfl⟩)
attribute [local irreducible] tm pt lessB in
set_option maxHeartbeats 800000 in
theorem spec_TuneOk (A : Option Addr) (c : Nat) (l : List (Int × Int)) (w : World) (hrd : RdN w A l) (hl : l.length ≤ 1000000000) :
    Calls Try.prog 61 #[.slice A l.length c] w fun e w' => e = .returned (.bool (tuneB l)) ∧ Below w.heap.size w w' := by
  go_enter Try.func61, Try.ntmps61
  go_wp2
  go_loopw [3] (fun i wr => ∃ k : Nat, k ≤ l.length ∧ i = .int .i64 k ∧ tuneTo l k ∧ Below w.heap.size w wr) (fun i _ => l.length - (intOf i).toNat)
  case atStart => exact ⟨0, by omega, rfl, fun _ h => by omega, Below.refl _ _⟩
  case round =>
    obtain ⟨k, hk, rfl, ht, hb⟩ := hrel
    by_cases hlt : k < l.length
    · obtain ⟨b, o, rfl, lb, hc⟩ := hrd (by omega)
      have k1 := (hb.cell (p := ⟨b, o + k * 2, none⟩) lb).trans (hc k hlt).1
      have k2 := (hb.cell (p := ⟨b, o + k * 2 + 1, none⟩) lb).trans (hc k hlt).2
      have mb : b < wr.heap.size := Nat.lt_of_lt_of_le lb hb.size
      by_cases hx : 0 ≤ tm l k ∧ tm l k ≤ 1000
      · by_cases hy : 0 ≤ pt l k ∧ pt l k ≤ 60
        · rcases Nat.eq_zero_or_pos k with h0 | h0
          · have HT := Lib.hid (ht.succ (show tuneAt l k from ⟨hx, hy, fun h => by omega⟩))
            have h0' : ¬ (0 : Int) < (k : Int) := by omega
            have h0d : decide ((0 : Int) < (k : Int)) = false := decide_eq_false h0'
            have h0e : decide (0 < k) = false := decide_eq_false (by omega)
            clear hc hrd h0
            go_wp2_with fail
            go_quiet ((go_at_call 93; exact quiet_u (in_yes _ _ _ _ (by assumption))))
            go_wp2
            go_roundw
            case rel => exact ⟨k + 1, by omega, by go_num, HT.out, bel_drewN hb _⟩
            case measure => simp [intOf]; omega
          · obtain ⟨m, hm⟩ : ∃ m, k = m + 1 := ⟨k - 1, by omega⟩
            have k3 := (hb.cell (p := ⟨b, o + m * 2, none⟩) lb).trans (hc m (by omega)).1
            have k4 := (hb.cell (p := ⟨b, o + m * 2 + 1, none⟩) lb).trans (hc m (by omega)).2
            have h0f : (0 : Int) < (k : Int) := by omega
            have h0g : (0 : Int) ≤ (m : Int) := by omega
            have h0h : (m : Int) < (l.length : Int) := by omega
            have h0i : (0 : Int) ≤ (k : Int) := by omega
            have h0j : (k : Int) < (l.length : Int) := by omega
            have HW := Lib.hid (show IntKind.i64.wrap ((k : Int) - 1) = (m : Int) by rw [show ((k : Int) - 1) = (m : Int) by omega]; exact IntWalk.i64_in _ (by omega))
            have HA := Lib.hid (at_m (l := l) hm)
            clear hm
            cases hB : lessB (tm l m) (pt l m) (tm l k) (pt l k)
            · have HB := Lib.hid hB
              have HF := Lib.hid (tuneB_no hlt (fun h : tuneAt l k => by have := h.2.2 h0; rw [HA.out, hB] at this; cases this))
              clear hc hrd hB
              go_wp2_with fail
              have hwr := HW.out
              go_region_held3 (fun w' => w'.cell? ⟨b, o + k * 2, none⟩ = some (.int .i64 (tm l k)) ∧ w'.cell? ⟨b, o + k * 2 + 1, none⟩ = some (.int .i64 (pt l k)) ∧ w'.cell? ⟨b, o + m * 2, none⟩ = some (.int .i64 (tm l m)) ∧ w'.cell? ⟨b, o + m * 2 + 1, none⟩ = some (.int .i64 (pt l m)) ∧ Below wr.heap.size wr w') (first | exact heldA_start k1 k2 k3 k4 rfl | assumption | exact heldA_keep mb mb mb mb (by assumption) hbz)
                (first | (go_at_call 93; refine (in_yes _ _ _ _ (by assumption)).mono ?_; rintro e wz ⟨rfl, rfl⟩) | (go_at_call 94; refine (less_any _ _ _ _ _).mono ?_; rintro e wz ⟨rfl, hbz⟩; rw [HB.out]))
              clear hwr
              rename_i hH
              have hb2 := hb.trans ((heldA_bel hH).mono hb.size)
              go_wp2
              go_ret
              exact ⟨ret_b HF.out.symm, hb2⟩
            · have HB := Lib.hid hB
              have HT := Lib.hid (ht.succ (show tuneAt l k from ⟨hx, hy, fun _ => by rw [HA.out, hB]⟩))
              clear hc hrd hB
              go_wp2_with fail
              have hwr := HW.out
              go_region_held3 (fun w' => w'.cell? ⟨b, o + k * 2, none⟩ = some (.int .i64 (tm l k)) ∧ w'.cell? ⟨b, o + k * 2 + 1, none⟩ = some (.int .i64 (pt l k)) ∧ w'.cell? ⟨b, o + m * 2, none⟩ = some (.int .i64 (tm l m)) ∧ w'.cell? ⟨b, o + m * 2 + 1, none⟩ = some (.int .i64 (pt l m)) ∧ Below wr.heap.size wr w') (first | exact heldA_start k1 k2 k3 k4 rfl | assumption | exact heldA_keep mb mb mb mb (by assumption) hbz)
                (first | (go_at_call 93; refine (in_yes _ _ _ _ (by assumption)).mono ?_; rintro e wz ⟨rfl, rfl⟩) | (go_at_call 94; refine (less_any _ _ _ _ _).mono ?_; rintro e wz ⟨rfl, hbz⟩; rw [HB.out]))
              clear hwr
              rename_i hH
              have hb2 := hb.trans ((heldA_bel hH).mono hb.size)
              go_wp2
              go_roundw
              case rel => exact ⟨k + 1, by omega, by go_num, HT.out, hb2⟩
              case measure => simp [intOf]; omega
        · clear hc hrd
          have HF := Lib.hid (tuneB_no hlt (fun h : tuneAt l k => hy h.2.1))
          go_wp2_with fail
          go_quiet ((go_at_call 93; first | exact quiet_u (in_yes _ _ _ _ (by assumption)) | exact quiet_u (in_no _ _ _ _ (by assumption))))
          go_wp2
          go_ret
          exact ⟨ret_b HF.out.symm, bel_drewN hb _⟩
      · clear hc hrd
        have HF := Lib.hid (tuneB_no hlt (fun h : tuneAt l k => hx h.1))
        go_wp2_with fail
        go_quiet ((go_at_call 93; exact quiet_u (in_no _ _ _ _ hx)))
        go_wp2
        go_ret
        exact ⟨ret_b HF.out.symm, bel_drewN hb _⟩
    · obtain rfl : k = l.length := by omega
      have HF := Lib.hid (tuneB_all ht)
      clear ht
      go_wp2
      go_ret
      exact ⟨ret_b (by rw [HF.out]; simp; omega), hb⟩
theorem comp_less (x y u v : Int) (w : World) (h : lessB x y u v = true) : Calls Try.prog 91 #[.agg #[.int .i64 x, .int .i64 y], .agg #[.int .i64 u, .int .i64 v]] w fun e w' => e = .returned (.int .i64 (-1)) ∧ Below w.heap.size w w' := by
  have hb : ∀ w' : World, w' = (w.alloc (.cells #[.int .i64 x, .int .i64 y] 37)).alloc (.cells #[.int .i64 u, .int .i64 v] 37) → Below w.heap.size w w' := by
    rintro w' rfl
    exact ((Below.refl _ _).alloc (Nat.le_refl _) _).alloc (by simp) _
  unfold lessB at h
  by_cases h1 : x < u
  · clear h
    go_enter Try.func91, Try.ntmps91
    go_wp2
    all_goals (go_ret; exact ⟨rfl, hb _ rfl⟩)
  · rw [decide_eq_false h1, Bool.false_or, Bool.and_eq_true] at h
    obtain ⟨h2, h3⟩ := h
    have h2 := of_decide_eq_true h2
    have h3 := of_decide_eq_true h3
    subst h2
    go_enter Try.func91, Try.ntmps91
    go_wp2
    all_goals (go_ret; exact ⟨rfl, hb _ rfl⟩)
theorem comp_no (x y u v : Int) (w : World) (h : lessB x y u v = false) : Calls Try.prog 91 #[.agg #[.int .i64 x, .int .i64 y], .agg #[.int .i64 u, .int .i64 v]] w fun e w' => ∃ z, e = .returned (.int .i64 z) ∧ 0 ≤ z ∧ Below w.heap.size w w' := by
  have hb : ∀ w' : World, w' = (w.alloc (.cells #[.int .i64 x, .int .i64 y] 37)).alloc (.cells #[.int .i64 u, .int .i64 v] 37) → Below w.heap.size w w' := by
    rintro w' rfl
    exact ((Below.refl _ _).alloc (Nat.le_refl _) _).alloc (by simp) _
  unfold lessB at h
  rw [Bool.or_eq_false_iff] at h
  obtain ⟨h1, h⟩ := h
  have h1 := of_decide_eq_false h1
  by_cases h2 : x = u
  · subst h2
    simp only [decide_true, Bool.true_and] at h
    have h3 := of_decide_eq_false h
    clear h
    by_cases h4 : y = v
    · subst h4
      go_enter Try.func91, Try.ntmps91
      go_wp2
      all_goals (go_ret; exact ⟨0, rfl, by omega, hb _ rfl⟩)
    · go_enter Try.func91, Try.ntmps91
      go_wp2
      all_goals (go_ret; exact ⟨1, rfl, by omega, hb _ rfl⟩)
  · clear h
    go_enter Try.func91, Try.ntmps91
    go_wp2
    all_goals (go_ret; exact ⟨1, rfl, by omega, hb _ rfl⟩)
attribute [local irreducible] tm pt lessB in
set_option maxHeartbeats 800000 in
theorem impl_TuneOk (A : Option Addr) (c : Nat) (l : List (Int × Int)) (w : World) (hrd : RdN w A l) (hl : l.length ≤ 1000000000) :
    Calls Try.prog 57 #[.slice A l.length c] w fun e w' => e = .returned (.bool (tuneB l)) ∧ Below w.heap.size w w' := by
  by_cases h40 : l.length ≤ 40
  · go_enter Try.func57, Try.ntmps57
    go_wp2
    go_loopw [10] (fun i wr => ∃ k : Nat, k ≤ l.length ∧ i = .int .i64 k ∧ tuneTo l k ∧ Below w.heap.size w wr) (fun i _ => l.length - (intOf i).toNat)
    case atStart => exact ⟨0, by omega, rfl, fun _ h => by omega, Below.refl _ _⟩
    case round =>
      obtain ⟨k, hk, rfl, ht, hb⟩ := hrel
      by_cases hlt : k < l.length
      · obtain ⟨b, o, rfl, lb, hc⟩ := hrd (by omega)
        have k1 := (hb.cell (p := ⟨b, o + k * 2, none⟩) lb).trans (hc k hlt).1
        have k2 := (hb.cell (p := ⟨b, o + k * 2 + 1, none⟩) lb).trans (hc k hlt).2
        have mb : b < wr.heap.size := Nat.lt_of_lt_of_le lb hb.size
        have hal : Below w.heap.size w (wr.alloc (Obj.cells #[.int .i64 (tm l k), .int .i64 (pt l k)] 37)) := hb.alloc hb.size _
        by_cases hx : 0 ≤ tm l k ∧ tm l k ≤ 1000
        · by_cases hy : 0 ≤ pt l k ∧ pt l k ≤ 60
          · rcases Nat.eq_zero_or_pos k with h0 | h0
            · have HT := Lib.hid (ht.succ (show tuneAt l k from ⟨hx, hy, fun h => by omega⟩))
              have h0' : ¬ (0 : Int) < (k : Int) := by omega
              have h0d : decide ((0 : Int) < (k : Int)) = false := decide_eq_false h0'
              have h0e : decide (0 < k) = false := decide_eq_false (by omega)
              clear hc hrd h0
              go_wp2_with fail
              go_quiet ((go_at_call 53; exact quiet_u (wi_yes _ _ _ _ (by assumption))))
              go_wp2
              go_roundw
              case rel => exact ⟨k + 1, by omega, by go_num, HT.out, bel_drewN hal _⟩
              case measure => simp [intOf]; omega
            · obtain ⟨m, hm⟩ : ∃ m, k = m + 1 := ⟨k - 1, by omega⟩
              have k3 := (hb.cell (p := ⟨b, o + m * 2, none⟩) lb).trans (hc m (by omega)).1
              have k4 := (hb.cell (p := ⟨b, o + m * 2 + 1, none⟩) lb).trans (hc m (by omega)).2
              have h0f : (0 : Int) < (k : Int) := by omega
              have h0g : (0 : Int) ≤ (m : Int) := by omega
              have h0h : (m : Int) < (l.length : Int) := by omega
              have h0i : (0 : Int) ≤ (k : Int) := by omega
              have h0j : (k : Int) < (l.length : Int) := by omega
              have HWr := Lib.hid (show IntKind.i64.wrap ((k : Int) - 1) = (m : Int) by rw [show ((k : Int) - 1) = (m : Int) by omega]; exact IntWalk.i64_in _ (by omega))
              have HA := Lib.hid (at_m (l := l) hm)
              clear hm
              obtain ⟨W, hW⟩ : ∃ W, W = wr.alloc (Obj.cells #[.int .i64 (tm l k), .int .i64 (pt l k)] 37) := ⟨_, rfl⟩
              have hBW : Below wr.heap.size wr W := by rw [hW]; exact (Below.refl _ _).alloc (Nat.le_refl _) _
              have n1 : W.cell? ⟨wr.heap.size, 0, none⟩ = some (.int .i64 (tm l k)) := by rw [hW]; simp [go_sem]
              have n2 : W.cell? ⟨wr.heap.size, 1, none⟩ = some (.int .i64 (pt l k)) := by rw [hW]; simp [go_sem]
              have n3 := (hBW.cell (p := ⟨b, o + m * 2, none⟩) mb).trans k3
              have n4 := (hBW.cell (p := ⟨b, o + m * 2 + 1, none⟩) mb).trans k4
              have nb : wr.heap.size < W.heap.size := by rw [hW]; simp
              have mW : b < W.heap.size := by omega
              have HW := Lib.hid hW
              have HBW := Lib.hid hBW
              have HS := Lib.hid (Nat.le_trans hb.size hBW.size)
              clear hW hBW k3 k4 hal
              cases hB : lessB (tm l m) (pt l m) (tm l k) (pt l k)
              · have HB := Lib.hid hB
                have HF := Lib.hid (tuneB_no hlt (fun h : tuneAt l k => by have := h.2.2 h0; rw [HA.out, hB] at this; cases this))
                clear hc hrd hB
                go_wp2_with fail
                rw [← HW.out]
                have hwr := HWr.out
                go_region_held3 (fun w' => w'.cell? ⟨wr.heap.size, 0, none⟩ = some (.int .i64 (tm l k)) ∧ w'.cell? ⟨wr.heap.size, 1, none⟩ = some (.int .i64 (pt l k)) ∧ w'.cell? ⟨b, o + m * 2, none⟩ = some (.int .i64 (tm l m)) ∧ w'.cell? ⟨b, o + m * 2 + 1, none⟩ = some (.int .i64 (pt l m)) ∧ Below W.heap.size W w') (first | exact heldA_start n1 n2 n3 n4 rfl | assumption | exact heldA_keep nb nb mW mW (by assumption) hbz)
                  (first | (go_at_call 53; refine (wi_yes _ _ _ _ (by assumption)).mono ?_; rintro e wz ⟨rfl, rfl⟩) | (go_at_call 91; refine (comp_no _ _ _ _ _ HB.out).mono ?_; rintro e wz ⟨z, rfl, hz, hbz⟩))
                clear hwr
                rename_i hH
                have hb2 := (hb.trans (HBW.out.mono hb.size)).trans ((heldA_bel hH).mono HS.out)
                go_wp2
                go_ret
                exact ⟨ret_b HF.out.symm, hb2⟩
              · have HB := Lib.hid hB
                have HT := Lib.hid (ht.succ (show tuneAt l k from ⟨hx, hy, fun _ => by rw [HA.out, hB]⟩))
                clear hc hrd hB
                go_wp2_with fail
                rw [← HW.out]
                have hwr := HWr.out
                go_region_held3 (fun w' => w'.cell? ⟨wr.heap.size, 0, none⟩ = some (.int .i64 (tm l k)) ∧ w'.cell? ⟨wr.heap.size, 1, none⟩ = some (.int .i64 (pt l k)) ∧ w'.cell? ⟨b, o + m * 2, none⟩ = some (.int .i64 (tm l m)) ∧ w'.cell? ⟨b, o + m * 2 + 1, none⟩ = some (.int .i64 (pt l m)) ∧ Below W.heap.size W w') (first | exact heldA_start n1 n2 n3 n4 rfl | assumption | exact heldA_keep nb nb mW mW (by assumption) hbz)
                  (first | (go_at_call 53; refine (wi_yes _ _ _ _ (by assumption)).mono ?_; rintro e wz ⟨rfl, rfl⟩) | (go_at_call 91; refine (comp_less _ _ _ _ _ HB.out).mono ?_; rintro e wz ⟨rfl, hbz⟩))
                clear hwr
                rename_i hH
                have hb2 := (hb.trans (HBW.out.mono hb.size)).trans ((heldA_bel hH).mono HS.out)
                go_wp2
                go_roundw
                case rel => exact ⟨k + 1, by omega, by go_num, HT.out, hb2⟩
                case measure => simp [intOf]; omega
          · clear hc hrd
            have HF := Lib.hid (tuneB_no hlt (fun h : tuneAt l k => hy h.2.1))
            go_wp2_with fail
            go_quiet ((go_at_call 53; first | exact quiet_u (wi_yes _ _ _ _ (by assumption)) | exact quiet_u (wi_no _ _ _ _ (by assumption))))
            go_wp2
            go_ret
            exact ⟨ret_b HF.out.symm, bel_drewN hal _⟩
        · clear hc hrd
          have HF := Lib.hid (tuneB_no hlt (fun h : tuneAt l k => hx h.1))
          go_wp2_with fail
          go_quiet ((go_at_call 53; exact quiet_u (wi_no _ _ _ _ (by assumption))))
          go_wp2
          go_ret
          exact ⟨ret_b HF.out.symm, bel_drewN hal _⟩
      · obtain rfl : k = l.length := by omega
        have HF := Lib.hid (tuneB_all ht)
        clear ht
        go_wp2
        go_ret
        exact ⟨ret_b (by rw [HF.out]; simp; omega), hb⟩
  · have HF := Lib.hid (tuneB_big h40)
    go_enter Try.func57, Try.ntmps57
    go_wp2
    go_ret
    exact ⟨ret_b HF.out.symm, Below.refl _ _⟩
end Go.Proofs.Ytkbceojeahninaa
