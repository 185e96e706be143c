/- The pitches of a tune, and the steps that it uses. -/
import Derived.Test.YtkbceojeahninaaBase
import Derived.Test.YtkbceojeahninaaTune
import Derived.Test.YtkbceojeahninaaSounding
import Derived.Test.YtkbceojeahninaaScaleB
import Derived.Test.YtkbceojeahninaaRows
import Derived.Outline
namespace Go.Proofs.Ytkbceojeahninaa
open Go.ChangeShapes Go.WideShapes Go.ChangeAt Go.RowKit
set_option linter.unusedVariables false
def hasP (l : List (Int × Int)) (p : Int) : Nat → Bool
  | 0 => false
  | k + 1 => hasP l p k || (pt l k == p)
theorem hasP_keep {l : List (Int × Int)} {p : Int} {k : Nat} (h : hasP l p k = true) : hasP l p (k + 1) = true := by unfold hasP; rw [h]; rfl
theorem hasP_next {l : List (Int × Int)} {p : Int} {k : Nat} (h : hasP l p k = false) : hasP l p (k + 1) = (pt l k == p) := by
  show (hasP l p k || _) = _; rw [h]; rfl
def pitZ (l : List (Int × Int)) : Nat → List Int
  | 0 => []
  | p + 1 => if hasP l (p : Int) l.length = true then pitZ l p ++ [(p : Int)] else pitZ l p
theorem pitZ_len (l : List (Int × Int)) : ∀ p, (pitZ l p).length ≤ p
  | 0 => Nat.le_refl _
  | p + 1 => by have := pitZ_len l p; unfold pitZ; split <;> simp <;> omega
theorem pitZ_yes {l : List (Int × Int)} {p : Nat} (h : hasP l (p : Int) l.length = true) : pitZ l (p + 1) = pitZ l p ++ [(p : Int)] := if_pos h
theorem pitZ_no {l : List (Int × Int)} {p : Nat} (h : hasP l (p : Int) l.length = false) : pitZ l (p + 1) = pitZ l p := if_neg (by rw [h]; simp)
attribute [local irreducible] tm pt pitZ hasP in
set_option maxHeartbeats 1600000 in
theorem pitchesOf_one (b0 : Nat) (A : Option Addr) (c : Nat) (l : List (Int × Int)) (w : World) (hc0 : w.cell? ⟨b0, 0, none⟩ = some (.slice A l.length c)) (hb0 : b0 < w.heap.size) (hrd : RdN w A l) (hl : l.length ≤ 1000000000) :
    Calls Try.prog 58 #[.slice (some ⟨b0, 0, none⟩) 1 1] w (RetI 3 w.heap.size (pitZ l 61) w) := by
  go_enter Try.func58, Try.ntmps58
  go_wp2
  go_loopw [3, 4] (fun v i wr => ∃ p : Nat, p ≤ 61 ∧ i = .int .i64 p ∧ OwnI 3 w.heap.size wr v (pitZ l p) ∧ Below w.heap.size w wr) (fun _ i _ => 61 - (intOf i).toNat)
  case atStart => exact ⟨0, by omega, rfl, by rw [show pitZ l 0 = [] by unfold pitZ; rfl]; exact OwnI.lit0 _ _, (Below.refl _ _).alloc (Nat.le_refl _) _⟩
  case round =>
    obtain ⟨p, hp, rfl, hown, hb⟩ := hrel
    by_cases hlt : p < 61
    · have hlen := pitZ_len l p
      go_wp2
      go_loopw [5, 17] (fun f i wt => ((i = .int .i64 0 ∧ f = .bool false) ∨ (i = .int .i64 1 ∧ f = .bool (hasP l p l.length))) ∧ Below wr.heap.size wr wt) (fun _ i _ => 1 - (intOf i).toNat)
      case atStart => exact ⟨Or.inl ⟨rfl, rfl⟩, Below.refl _ _⟩
      case round =>
        obtain ⟨hi, hbt⟩ := hrel
        rcases hi with ⟨rfl, rfl⟩ | ⟨rfl, rfl⟩
        · have kc := ((hb.trans (hbt.mono hb.size)).cell (p := ⟨b0, 0, none⟩) hb0).trans hc0
          go_wp2
          go_loopw [5, 23] (fun f i wu => ∃ k : Nat, k ≤ l.length ∧ i = .int .i64 k ∧ f = .bool (hasP l p k) ∧ Below wr.heap.size wr wu) (fun _ i _ => l.length - (intOf i).toNat)
          case atStart => exact ⟨0, by omega, rfl, by unfold hasP; rfl, Below.refl _ _⟩
          case round =>
            obtain ⟨k, hk, rfl, rfl, hbu⟩ := hrel
            by_cases hlk : k < l.length
            · obtain ⟨b, o, rfl, lb, hcl⟩ := hrd (by omega)
              have hbw := hb.trans ((hbt.trans (hbu.mono hbt.size)).mono hb.size)
              have k1 := (hbw.cell (p := ⟨b, o + k * 2, none⟩) lb).trans (hcl k hlk).1
              have k2 := (hbw.cell (p := ⟨b, o + k * 2 + 1, none⟩) lb).trans (hcl k hlk).2
              have hbn := hbu.alloc hbu.size (Obj.cells #[.int .i64 (tm l k), .int .i64 (pt l k)] 37)
              clear hcl
              cases hH : hasP l p k
              · have HN := Lib.hid (hasP_next hH)
                go_wp2
                go_roundw
                case rel => exact ⟨k + 1, by omega, by go_num, by rw [HN.out], hbn⟩
                case measure => simp [intOf]; omega
              · have HN := Lib.hid (hasP_keep hH)
                go_wp2
                go_roundw
                case rel => exact ⟨k + 1, by omega, by go_num, by rw [HN.out], hbn⟩
                case measure => simp [intOf]; omega
            · obtain rfl : k = l.length := by omega
              go_wp2
              go_roundw
              case rel => exact ⟨Or.inr ⟨rfl, rfl⟩, hbt.trans (hbu.mono hbt.size)⟩
              case measure => simp [intOf]
        · cases hH : hasP l p l.length
          · have HY := Lib.hid (pitZ_no hH)
            go_wp2
            go_roundw
            case rel => exact ⟨p + 1, by omega, by go_num, by rw [HY.out]; exact hown.below hbt rfl, hb.trans (hbt.mono hb.size)⟩
            case measure => simp [intOf]; omega
          · have HY := Lib.hid (pitZ_yes hH)
            have hbw := hb.trans (hbt.mono hb.size)
            have hBs := hbw.size
            go_wp2_with (at_builtin; refine app_int rfl _ _ 24 rfl 3 Try.underlying24 (by kernel_rfl) w.heap.size _ (pitZ l p) (p : Int) (hown.below hbt rfl) rfl rfl (by omega) hBs ?_; intro v' w2 hown1 hb2)
            go_roundw
            case rel => exact ⟨p + 1, by omega, by go_num, by rw [HY.out]; exact hown1, hbw.trans hb2⟩
            case measure => simp [intOf]; omega
    · obtain rfl : p = 61 := by omega
      go_wp2
      go_ret
      exact RetI.mk hown hb
theorem hasP_iff {l : List (Int × Int)} {p : Int} : ∀ n, hasP l p n = true ↔ ∃ k, k < n ∧ pt l k = p
  | 0 => by simp [hasP]
  | n + 1 => by
    unfold hasP
    rw [Bool.or_eq_true, hasP_iff n, beq_iff_eq]
    constructor
    · rintro (⟨k, hk, h⟩ | h)
      · exact ⟨k, by omega, h⟩
      · exact ⟨n, by omega, h⟩
    · rintro ⟨k, hk, h⟩
      by_cases e : k = n
      · exact Or.inr (e ▸ h)
      · exact Or.inl ⟨k, by omega, h⟩
theorem pitZ_mem {l : List (Int × Int)} {x : Int} : ∀ P, x ∈ pitZ l P ↔ ∃ p : Nat, p < P ∧ x = (p : Int) ∧ hasP l (p : Int) l.length = true
  | 0 => by simp [pitZ]
  | P + 1 => by
    unfold pitZ
    by_cases h : hasP l (P : Int) l.length = true
    · rw [if_pos h, List.mem_append, pitZ_mem P, List.mem_singleton]
      constructor
      · rintro (⟨p, hp, h1, h2⟩ | h1)
        · exact ⟨p, by omega, h1, h2⟩
        · exact ⟨P, by omega, h1, h⟩
      · rintro ⟨p, hp, h1, h2⟩
        by_cases e : p = P
        · subst e; exact Or.inr h1
        · exact Or.inl ⟨p, by omega, h1, h2⟩
    · rw [if_neg h, pitZ_mem P]
      constructor
      · rintro ⟨p, hp, h1, h2⟩
        exact ⟨p, by omega, h1, h2⟩
      · rintro ⟨p, hp, h1, h2⟩
        by_cases e : p = P
        · subst e; exact absurd h2 h
        · exact ⟨p, by omega, h1, h2⟩
theorem one_bit (m j : Nat) : (1 <<< m).testBit j = decide (m = j) := by rw [Nat.one_shiftLeft, Nat.testBit_two_pow]
theorem fold_bit (j : Nat) : ∀ (m : List Int) (a : Nat), (m.foldl (fun acc (p : Int) => acc ||| 1 <<< (p.toNat % 12)) a).testBit j = true ↔ a.testBit j = true ∨ ∃ x ∈ m, x.toNat % 12 = j
  | [], a => by simp
  | x :: m, a => by
    rw [List.foldl_cons, fold_bit j m, Nat.testBit_or, one_bit, Bool.or_eq_true, decide_eq_true_eq]
    simp only [List.mem_cons, exists_eq_or_imp]
    constructor
    · rintro ((h | h) | h)
      · exact Or.inl h
      · exact Or.inr (Or.inl h)
      · exact Or.inr (Or.inr h)
    · rintro (h | h | h)
      · exact Or.inl (Or.inl h)
      · exact Or.inl (Or.inr h)
      · exact Or.inr h
def stU (l : List (Int × Int)) : Nat → Nat
  | 0 => 0
  | k + 1 => stU l k ||| 1 <<< ((pt l k).toNat % 12)
theorem stU_lt (l : List (Int × Int)) : ∀ k, stU l k < 4096
  | 0 => by unfold stU; omega
  | k + 1 => by
    unfold stU
    have h1 : 1 <<< ((pt l k).toNat % 12) < 2 ^ 12 := by
      rw [Nat.one_shiftLeft]
      exact Nat.pow_lt_pow_right (by omega) (Nat.mod_lt _ (by omega))
    exact Nat.or_lt_two_pow (n := 12) (stU_lt l k) h1
theorem stU_bit (l : List (Int × Int)) (j : Nat) : ∀ n, (stU l n).testBit j = true ↔ ∃ k, k < n ∧ (pt l k).toNat % 12 = j
  | 0 => by simp [stU]
  | n + 1 => by
    unfold stU
    rw [Nat.testBit_or, one_bit, Bool.or_eq_true, stU_bit l j n, decide_eq_true_eq]
    constructor
    · rintro (⟨k, hk, h⟩ | h)
      · exact ⟨k, by omega, h⟩
      · exact ⟨n, by omega, h⟩
    · rintro ⟨k, hk, h⟩
      by_cases e : k = n
      · subst e; exact Or.inr h
      · exact Or.inl ⟨k, by omega, h⟩
theorem steps_eq {l : List (Int × Int)} (h : tuneB l = true) : stepsOf (pitZ l 61) = stU l l.length := by
  apply Nat.eq_of_testBit_eq
  intro j
  rw [Bool.eq_iff_iff, stU_bit]
  unfold stepsOf stepsTo
  rw [List.take_length, fold_bit]
  simp only [Nat.zero_testBit, Bool.false_eq_true, false_or]
  constructor
  · rintro ⟨x, hx, hj⟩
    obtain ⟨p, hp, rfl, hh⟩ := (pitZ_mem 61).1 hx
    obtain ⟨k, hk, he⟩ := (hasP_iff _).1 hh
    exact ⟨k, hk, by rw [he]; exact hj⟩
  · rintro ⟨k, hk, hj⟩
    have hr := pt_rng h hk
    obtain ⟨p, hp⟩ := Int.eq_ofNat_of_zero_le hr.1
    refine ⟨pt l k, (pitZ_mem 61).2 ⟨p, by omega, hp, (hasP_iff _).2 ⟨k, hk, hp⟩⟩, hj⟩
noncomputable def stuB (l : List (Int × Int)) : Int := if tuneB l then (stU l l.length : Int) else -1
theorem stuB_yes {l : List (Int × Int)} (h : tuneB l = true) : stuB l = (stU l l.length : Int) := by unfold stuB; rw [h]; rfl
theorem stuB_no {l : List (Int × Int)} (h : tuneB l = false) : stuB l = -1 := by unfold stuB; rw [h]; rfl
theorem pit_rng {l : List (Int × Int)} {i : Nat} (h : i < (pitZ l 61).length) : 0 ≤ gt (pitZ l 61) i ∧ gt (pitZ l 61) i ≤ 1000 := by
  have hm : gt (pitZ l 61) i ∈ pitZ l 61 := by
    unfold gt; rw [List.getD_eq_getElem?_getD, List.getElem?_eq_getElem h]; exact List.getElem_mem h
  obtain ⟨p, hp, he, _⟩ := (pitZ_mem 61).1 hm
  rw [he]; omega
end Go.Proofs.Ytkbceojeahninaa
