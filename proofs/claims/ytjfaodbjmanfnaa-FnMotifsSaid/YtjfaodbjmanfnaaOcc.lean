/- Whether a motif occurs in a tune at a place: the program's and the reference's functions by contract. -/
import Derived.Test.YtjfaodbjmanfnaaBase
import Derived.Test.YtjfaodbjmanfnaaIn
import Derived.Test.YtjfaodbjmanfnaaTune
import Derived.Test.YtjfaodbjmanfnaaSounding
import Derived.Test.YtjfaodbjmanfnaaRows
import Derived.Deep.RegionHeld3
import Derived.WalkSpells
import Derived.Deep.QuietTactic
import Derived.BigQuiet
import Derived.Outline
namespace Go.Proofs.Ytjfaodbjmanfnaa
open Go.ChangeShapes Go.WideShapes Go.ChangeAt Go.RowKit
set_option linter.unusedVariables false
def hasN (l : List (Int × Int)) (x y : Int) : Nat → Bool
  | 0 => false
  | k + 1 => hasN l x y k || (decide (tm l k = x) && decide (pt l k = y))
theorem hasN_yes {l : List (Int × Int)} {x y : Int} {k : Nat} (h : tm l k = x ∧ pt l k = y) : hasN l x y (k + 1) = true := by
  unfold hasN; rw [decide_eq_true h.1, decide_eq_true h.2]; simp
theorem hasN_no {l : List (Int × Int)} {x y : Int} {k : Nat} (h : ¬ (tm l k = x ∧ pt l k = y)) : hasN l x y (k + 1) = hasN l x y k := by
  show (hasN l x y k || _) = _
  rw [← Bool.decide_and, decide_eq_false h, Bool.or_false]
theorem hasN_keep {l : List (Int × Int)} {x y : Int} {k : Nat} (h : hasN l x y k = true) : hasN l x y (k + 1) = true := by
  show (hasN l x y k || _) = _; rw [h]; rfl
theorem hasN_iff {l : List (Int × Int)} {x y : Int} : ∀ n, hasN l x y n = true ↔ ∃ k, k < n ∧ tm l k = x ∧ pt l k = y
  | 0 => by simp [hasN]
  | n + 1 => by
    unfold hasN
    rw [Bool.or_eq_true, hasN_iff n, Bool.and_eq_true, decide_eq_true_eq, decide_eq_true_eq]
    constructor
    · rintro (⟨k, hk, h⟩ | h)
      · exact ⟨k, by omega, h⟩
      · exact ⟨n, by omega, h⟩
    · rintro ⟨k, hk, h⟩
      by_cases e : k = n
      · exact Or.inr (e ▸ h)
      · exact Or.inl ⟨k, by omega, h⟩
theorem hasN_at {l : List (Int × Int)} {x y : Int} {k : Nat} (hk : k < l.length) (h : tm l k = x ∧ pt l k = y) : hasN l x y l.length = true := (hasN_iff _).2 ⟨k, hk, h⟩
theorem hasN_non {l : List (Int × Int)} {x y : Int} (h : ∀ i, i < l.length → ¬ (tm l i = x ∧ pt l i = y)) : hasN l x y l.length = false := by
  cases hh : hasN l x y l.length
  · rfl
  · obtain ⟨k, hk, hx⟩ := (hasN_iff _).1 hh
    exact absurd hx (h k hk)
theorem to_succ3 {p : Nat → Prop} {k : Nat} (h : ∀ i, i < k → p i) (hk : p k) : ∀ i, i < k + 1 → p i := by
  intro i hi
  by_cases e : i = k
  · subst e; exact hk
  · exact h i (by omega)
attribute [local irreducible] tm pt hasN in
set_option maxHeartbeats 800000 in
theorem hasNote_any (A : Option Addr) (c : Nat) (l : List (Int × Int)) (x y : Int) (w : World) (hrd : RdN w A l) (hl : l.length ≤ 1000000000) :
    Calls Try.prog 75 #[.slice A l.length c, .agg #[.int .i64 x, .int .i64 y]] w fun e w' => e = .returned (.bool (hasN l x y l.length)) ∧ Below w.heap.size w w' := by
  obtain ⟨W, hW⟩ : ∃ W, W = w.alloc (Obj.cells #[.int .i64 x, .int .i64 y] 39) := ⟨_, rfl⟩
  have hBW : Below w.heap.size w W := by rw [hW]; exact (Below.refl _ _).alloc (Nat.le_refl _) _
  have hWs : W.heap.size = w.heap.size + 1 := by rw [hW]; simp
  have n1 : W.cell? ⟨w.heap.size, 0, none⟩ = some (.int .i64 x) := by rw [hW]; simp [go_sem]
  have n2 : W.cell? ⟨w.heap.size, 1, none⟩ = some (.int .i64 y) := by rw [hW]; simp [go_sem]
  have hr1 := hrd.below hBW rfl
  have HW := Lib.hid hW
  have HWs := Lib.hid hWs
  have hs : w.heap.size < W.heap.size := by omega
  clear hW hWs
  go_enter Try.func75, Try.ntmps75
  go_wp2
  rw [← HW.out]
  go_loopw [9] (fun q wr => ∃ k : Nat, k ≤ l.length ∧ q = .int .i64 k ∧ (∀ i, i < k → ¬ (tm l i = x ∧ pt l i = y)) ∧ Below W.heap.size W wr) (fun q _ => l.length - (intOf q).toNat)
  case atStart => exact ⟨0, by omega, rfl, fun _ h => by omega, Below.refl _ _⟩
  case round =>
    obtain ⟨k, hk, rfl, hM, hb⟩ := hrel
    have HM := Lib.hid hM
    clear hM
    by_cases hlt : k < l.length
    · obtain ⟨b, o, rfl, lb, hc⟩ := hr1 (by omega)
      have k1 := (hb.cell (p := ⟨b, o + k * 2, none⟩) lb).trans (hc k hlt).1
      have k2 := (hb.cell (p := ⟨b, o + k * 2 + 1, none⟩) lb).trans (hc k hlt).2
      have k3 := (hb.cell (p := ⟨w.heap.size, 0, none⟩) hs).trans n1
      have k4 := (hb.cell (p := ⟨w.heap.size, 1, none⟩) hs).trans n2
      have k5 : w.heap.size < wr.heap.size := Nat.lt_of_lt_of_le hs hb.size
      have hb2 := hb.alloc hb.size (Obj.cells #[.int .i64 (tm l k), .int .i64 (pt l k)] 39)
      by_cases h1 : tm l k = x
      · by_cases h2 : pt l k = y
        · have HV := Lib.hid (hasN_at hlt ⟨h1, h2⟩)
          have q1 : (tm l k == x) = true := by simpa using h1
          have q2 : (pt l k == y) = true := by simpa using h2
          clear hc hrd hr1 h1 h2
          go_wp2
          go_ret
          exact ⟨ret_bool HV.out.symm, hBW.trans (hb2.mono hBW.size)⟩
        · have HA := Lib.hid (show ¬ (tm l k = x ∧ pt l k = y) from fun h => h2 h.2)
          have q1 : (tm l k == x) = true := by simpa using h1
          have q2 : (pt l k == y) = false := by simpa using h2
          clear hc hrd hr1 h1 h2
          go_wp2
          go_roundw
          case rel => exact ⟨k + 1, by omega, by go_num, to_succ3 HM.out HA.out, hb2⟩
          case measure => simp [intOf]; omega
      · have HA := Lib.hid (show ¬ (tm l k = x ∧ pt l k = y) from fun h => h1 h.1)
        have q1 : (tm l k == x) = false := by simpa using h1
        clear hc hrd hr1 h1
        go_wp2
        go_roundw
        case rel => exact ⟨k + 1, by omega, by go_num, to_succ3 HM.out HA.out, hb2⟩
        case measure => simp [intOf]; omega
    · obtain rfl : k = l.length := by omega
      have HV := Lib.hid (hasN_non HM.out)
      go_wp2
      go_ret
      exact ⟨ret_bool HV.out.symm, hBW.trans (hb.mono hBW.size)⟩
def mvT (t m : List (Int × Int)) (k i : Nat) : Int := tm m i - tm m 0 + tm t k
def mvP (t m : List (Int × Int)) (k i : Nat) : Int := pt m i - pt m 0 + pt t k
def occAt (t m : List (Int × Int)) (k i : Nat) : Prop := hasN t (mvT t m k i) (mvP t m k i) t.length = true
def occP (t m : List (Int × Int)) (k : Nat) : Prop := ∀ i, i < m.length → occAt t m k i
noncomputable instance (t m : List (Int × Int)) (k : Nat) : Decidable (occP t m k) := Classical.propDecidable _
def occOk (t m : List (Int × Int)) (k : Int) : Prop := tuneB t = true ∧ tuneB m = true ∧ 0 < m.length ∧ 0 ≤ k ∧ k < (t.length : Int)
noncomputable instance (t m : List (Int × Int)) (k : Int) : Decidable (occOk t m k) := Classical.propDecidable _
noncomputable def occB (t m : List (Int × Int)) (k : Int) : Bool := decide (occOk t m k) && decide (occP t m k.toNat)
theorem occB_no {t m : List (Int × Int)} {k : Int} (h : ¬ occOk t m k) : occB t m k = false := by unfold occB; rw [decide_eq_false h]; rfl
theorem occB_at {t m : List (Int × Int)} {k : Nat} (h : occOk t m k) : occB t m k = decide (occP t m k) := by unfold occB; rw [decide_eq_true h]; rfl
theorem occ_no {t m : List (Int × Int)} {k i : Nat} (hi : i < m.length) (h : hasN t (mvT t m k i) (mvP t m k i) t.length = false) : decide (occP t m k) = false :=
  decide_eq_false fun hh => by have h2 : _ = true := hh i hi; rw [h] at h2; cases h2
attribute [local irreducible] tm pt hasN tuneB in
set_option maxHeartbeats 1600000 in
theorem spec_Occ_ok (A B : Option Addr) (c d : Nat) (t m : List (Int × Int)) (k : Nat) (w : World) (hra : RdN w A t) (hrb : RdN w B m) (hla : t.length ≤ 100000) (hlb : m.length ≤ 100000) (hA : tuneB t = true) (hB : tuneB m = true) (h0 : 0 < m.length) (hk : k < t.length) :
    Calls Try.prog 89 #[.slice A t.length c, .slice B m.length d, .int .i64 k] w fun e w' => e = .returned (.bool (decide (occP t m k))) ∧ Below w.heap.size w w' := by
  have HT := Lib.hid (fun j (hj : j < t.length) => And.intro (tm_rng hA hj) (pt_rng hA hj))
  have HU := Lib.hid (fun j (hj : j < m.length) => And.intro (tm_rng hB hj) (pt_rng hB hj))
  have HA := Lib.hid hA
  have HB := Lib.hid hB
  clear hA hB
  have hk1 : (0 : Int) ≤ (k : Int) ∧ (k : Int) ≤ (t.length : Int) - 1 := by omega
  have hk2 : ((m.length : Int) == 0) = false := by rw [beq_eq_false_iff_ne]; omega
  have hk5 : ¬ m = [] := by intro h; rw [h] at h0; simp at h0
  have hk3 : (k : Int) < (t.length : Int) := by omega
  have hk4 : (0 : Int) ≤ (k : Int) := by omega
  go_enter Try.func89, Try.ntmps89
  go_wp2_with fail
  refine (spec_TuneOk _ _ _ _ hra (by omega)).mono ?_
  rintro e w1 ⟨rfl, hb1⟩
  rw [HA.out]
  go_wp2_with fail
  refine (spec_TuneOk _ _ _ _ (hrb.below hb1 rfl) (by omega)).mono ?_
  rintro e w2 ⟨rfl, hb2⟩
  rw [HB.out]
  have hb02 := hb1.trans (hb2.mono hb1.size)
  have ra := hra.below hb02 rfl
  have rb := hrb.below hb02 rfl
  clear hra hrb hb1 hb2
  go_wp2_with (go_at_call 76; refine (in_yes _ _ _ _ hk1).mono ?_; rintro e wz ⟨rfl, rfl⟩)
  go_loopw [7] (fun q wr => ∃ i : Nat, i ≤ m.length ∧ q = .int .i64 i ∧ (∀ j, j < i → occAt t m k j) ∧ Below w2.heap.size w2 wr) (fun q _ => m.length - (intOf q).toNat)
  case atStart => exact ⟨0, by omega, rfl, fun _ h => by omega, Below.refl _ _⟩
  case round =>
    obtain ⟨i, hi, rfl, hM, hb⟩ := hrel
    have HM := Lib.hid hM
    clear hM
    by_cases hlt : i < m.length
    · obtain ⟨b1, o1, rfl, l1, c1⟩ := ra (by omega)
      obtain ⟨b2, o2, rfl, l2, c2⟩ := rb (by omega)
      have k1 := (hb.cell (p := ⟨b2, o2 + i * 2, none⟩) l2).trans (c2 i hlt).1
      have k2 := (hb.cell (p := ⟨b2, o2 + i * 2 + 1, none⟩) l2).trans (c2 i hlt).2
      have k3 := (hb.cell (p := ⟨b2, o2, none⟩) l2).trans (by simpa using (c2 0 h0).1)
      have k4 := (hb.cell (p := ⟨b2, o2 + 1, none⟩) l2).trans (by simpa using (c2 0 h0).2)
      have k5 := (hb.cell (p := ⟨b1, o1 + k * 2, none⟩) l1).trans (c1 k hk).1
      have k6 := (hb.cell (p := ⟨b1, o1 + k * 2 + 1, none⟩) l1).trans (c1 k hk).2
      have g1 := HU.out i hlt
      have g2 := HU.out 0 h0
      have g3 := HT.out k hk
      have h0a : (0 : Int) ≤ (i : Int) := by omega
      have h0b : (i : Int) < (m.length : Int) := by omega
      have h0c : (0 : Int) < (m.length : Int) := by omega
      have W1 := Lib.hid (show IntKind.i64.wrap (tm m i - tm m 0) = tm m i - tm m 0 from IntWalk.i64_in _ (by omega))
      have W2 := Lib.hid (show IntKind.i64.wrap (pt m i - pt m 0) = pt m i - pt m 0 from IntWalk.i64_in _ (by omega))
      have W3 := Lib.hid (show IntKind.i64.wrap (tm m i - tm m 0 + tm t k) = tm m i - tm m 0 + tm t k from IntWalk.i64_in _ (by omega))
      have W4 := Lib.hid (show IntKind.i64.wrap (pt m i - pt m 0 + pt t k) = pt m i - pt m 0 + pt t k from IntWalk.i64_in _ (by omega))
      have HC1 := Lib.hid c1
      clear c1 c2
      go_wp2_with fail
      have v1 := W1.out
      have v2 := W2.out
      have v3 := W3.out
      have v4 := W4.out
      go_region_held3 (fun w' => w'.cell? ⟨b2, o2 + i * 2, none⟩ = some (.int .i64 (tm m i)) ∧ w'.cell? ⟨b2, o2 + i * 2 + 1, none⟩ = some (.int .i64 (pt m i)) ∧ w'.cell? ⟨b2, o2, none⟩ = some (.int .i64 (tm m 0)) ∧ w'.cell? ⟨b2, o2 + 1, none⟩ = some (.int .i64 (pt m 0)) ∧ w'.cell? ⟨b1, o1 + k * 2, none⟩ = some (.int .i64 (tm t k)) ∧ w'.cell? ⟨b1, o1 + k * 2 + 1, none⟩ = some (.int .i64 (pt t k)))
        (first | exact ⟨k1, k2, k3, k4, k5, k6⟩ | go_keep)
        (first | fail)
      clear v1 v2 v3 v4
      obtain ⟨V, hV⟩ : ∃ V, V = (wr.alloc (Obj.cells #[.int .i64 (tm m i - tm m 0 + tm t k), .int .i64 (pt m i - pt m 0 + pt t k)] 39)).drew := ⟨_, rfl⟩
      have hBV : Below wr.heap.size wr V := by rw [hV]; exact ((Below.refl _ _).alloc (Nat.le_refl _) _).drew
      have n1 : V.cell? ⟨wr.heap.size, 0, none⟩ = some (.int .i64 (mvT t m k i)) := by rw [hV]; simp [go_sem, mvT]
      have n2 : V.cell? ⟨wr.heap.size, 1, none⟩ = some (.int .i64 (mvP t m k i)) := by rw [hV]; simp [go_sem, mvP]
      have nV : wr.heap.size < V.heap.size := by rw [hV]; simp
      have hb3 := hb.trans (hBV.mono hb.size)
      have raV := (show RdN w2 (some ⟨b1, o1, none⟩) t from ra).below hb3 rfl
      have HV := Lib.hid hV
      obtain ⟨wo, hwo⟩ : ∃ wo, wo = wr := ⟨wr, rfl⟩
      subst hwo
      obtain ⟨X, hX⟩ : ∃ X, X = mvT t m k i := ⟨_, rfl⟩
      obtain ⟨Y, hY⟩ : ∃ Y, Y = mvP t m k i := ⟨_, rfl⟩
      rw [← hX] at n1
      rw [← hY] at n2
      have HX := Lib.hid hX
      have HY := Lib.hid hY
      clear hV hBV hX hY k1 k2 k3 k4 k5 k6 g1 g2 g3
      go_wp2_with fail
      rw [← HV.out]
      go_loopw [9, 10] (fun f q wt => ∃ j : Nat, j ≤ t.length ∧ q = .int .i64 j ∧ f = .bool (hasN t X Y j) ∧ Below V.heap.size V wt) (fun _ q _ => t.length - (intOf q).toNat)
      case atStart => exact ⟨0, by omega, rfl, by unfold hasN; rfl, Below.refl _ _⟩
      case round =>
        obtain ⟨j, hj, rfl, rfl, hbt⟩ := hrel
        by_cases hlj : j < t.length
        · have k1 := (hbt.cell (p := ⟨b1, o1 + j * 2, none⟩) (Nat.lt_of_lt_of_le l1 hb3.size)).trans ((hb3.cell (p := ⟨b1, o1 + j * 2, none⟩) l1).trans (HC1.out j hlj).1)
          have k2 := (hbt.cell (p := ⟨b1, o1 + j * 2 + 1, none⟩) (Nat.lt_of_lt_of_le l1 hb3.size)).trans ((hb3.cell (p := ⟨b1, o1 + j * 2 + 1, none⟩) l1).trans (HC1.out j hlj).2)
          have k3 := (hbt.cell (p := ⟨wo.heap.size, 0, none⟩) nV).trans n1
          have k4 := (hbt.cell (p := ⟨wo.heap.size, 1, none⟩) nV).trans n2
          have h0d : (0 : Int) ≤ (j : Int) := by omega
          have h0e : (j : Int) < (t.length : Int) := by omega
          cases hH : hasN t X Y j
          · by_cases h1 : tm t j = X
            · by_cases h2 : pt t j = Y
              · have HN := Lib.hid (hasN_yes (l := t) ⟨h1, h2⟩)
                have q1 : (tm t j == X) = true := by simpa using h1
                have q2 : (pt t j == Y) = true := by simpa using h2
                clear h1 h2 hH
                go_wp2_with fail
                go_quiet (fail)
                go_wp2
                go_roundw
                case rel => exact ⟨j + 1, by omega, by go_num, by rw [HN.out], bel_drewN hbt _⟩
                case measure => simp [intOf]; omega
              · have HN := Lib.hid ((hasN_no (l := t) (k := j) (fun h => h2 h.2)).trans hH)
                have q1 : (tm t j == X) = true := by simpa using h1
                have q2 : (pt t j == Y) = false := by simpa using h2
                clear h1 h2 hH
                go_wp2_with fail
                go_quiet (fail)
                go_wp2
                go_roundw
                case rel => exact ⟨j + 1, by omega, by go_num, by rw [HN.out], bel_drewN hbt _⟩
                case measure => simp [intOf]; omega
            · have HN := Lib.hid ((hasN_no (l := t) (k := j) (fun h => h1 h.1)).trans hH)
              have q1 : (tm t j == X) = false := by simpa using h1
              clear h1 hH
              go_wp2_with fail
              go_quiet (fail)
              go_wp2
              go_roundw
              case rel => exact ⟨j + 1, by omega, by go_num, by rw [HN.out], bel_drewN hbt _⟩
              case measure => simp [intOf]; omega
          · have HN := Lib.hid (hasN_keep hH)
            clear hH
            go_wp2_with fail
            go_quiet (fail)
            go_wp2
            go_roundw
            case rel => exact ⟨j + 1, by omega, by go_num, by rw [HN.out], bel_drewN hbt _⟩
            case measure => simp [intOf]; omega
        · obtain rfl : j = t.length := by omega
          cases hH : hasN t X Y t.length
          · have HF := Lib.hid (occ_no (t := t) (k := k) hlt (by rw [← HX.out, ← HY.out]; exact hH))
            clear hH
            go_wp2
            go_ret
            exact ⟨ret_bool HF.out.symm, hb02.trans ((hb3.trans (hbt.mono hb3.size)).mono hb02.size)⟩
          · have HG := Lib.hid (show occAt t m k i by unfold occAt; rw [← HX.out, ← HY.out]; exact hH)
            clear hH
            go_wp2
            go_roundw
            case rel => exact ⟨i + 1, by omega, by go_num, to_succ3 HM.out HG.out, hb3.trans (hbt.mono hb3.size)⟩
            case measure => simp [intOf]; omega
    · obtain rfl : i = m.length := by omega
      have HF := Lib.hid (show decide (occP t m k) = true from decide_eq_true HM.out)
      go_wp2
      go_ret
      exact ⟨ret_bool HF.out.symm, hb02.trans (hb.mono hb02.size)⟩
end Go.Proofs.Ytjfaodbjmanfnaa
