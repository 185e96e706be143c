/- The pitches that two tunes have in common, in order: the reference's and the program's rows. -/
import Derived.Test.YtaofflohfpodfaaDist
namespace Go.Proofs.Ytaofflohfpodfaa
open Go.ChangeShapes Go.WideShapes Go.ChangeAt Go.RowKit
set_option linter.unusedVariables false
theorem lst_zero (f : Nat → Int) (h : ∀ k, f k = 0) (n : Nat) : lst f n = List.replicate n 0 := by
  unfold lst
  rw [show f = fun _ => (0 : Int) from funext h]
  rw [List.map_const', List.length_range]
theorem com_zero (a b : List (Int × Int)) (k : Nat) : com a b 0 k = 0 := by unfold com; rfl
theorem com_eq {a b : List (Int × Int)} {n m : Nat} (h : pt a n = pt b m) : com a b (n + 1) (m + 1) = max (max (com a b n (m + 1)) (com a b (n + 1) m)) (com a b n m + 1) := by rw [com, if_pos h]
theorem com_ne {a b : List (Int × Int)} {n m : Nat} (h : ¬ pt a n = pt b m) : com a b (n + 1) (m + 1) = max (com a b n (m + 1)) (com a b (n + 1) m) := by
  have h1 := com_rng a b n (m + 1)
  rw [com, if_neg h]; omega
theorem OwnI.last {e B : Nat} {w : World} {v : Value} {l : List Int} {x y : Int} (h : OwnI e B w v (l ++ [x])) (hxy : x = y) : OwnI e B w v (l ++ [y]) := hxy ▸ h
attribute [local irreducible] tm pt tuneB lst in
set_option maxHeartbeats 1600000 in
theorem spec_Com_ok (A B : Option Addr) (c d : Nat) (a b : List (Int × Int)) (w : World) (hra : RdN w A a) (hrb : RdN w B b) (hla : a.length ≤ 100000) (hlb : b.length ≤ 100000) (hA : tuneB a = true) (hB : tuneB b = true) :
    Calls Try.prog 20 #[.slice A a.length c, .slice B b.length d] w fun e w' => e = .returned (.int .i64 (com a b a.length b.length)) ∧ Below w.heap.size w w' := by
  have HA := Lib.hid hA
  have HB := Lib.hid hB
  clear hA hB
  go_enter Try.func20, Try.ntmps20
  go_wp2_with fail
  refine (spec_TuneOk _ _ _ _ hra (by omega)).mono ?_
  rintro e w1 ⟨rfl, hb1⟩
  rw [HA.out]
  go_wp2_with fail
  refine (spec_TuneOk _ _ _ _ (hrb.below hb1 rfl) (by omega)).mono ?_
  rintro e w2 ⟨rfl, hb2⟩
  rw [HB.out]
  have hb02 := hb1.trans (hb2.mono hb1.size)
  have ra := hra.below hb02 rfl
  have rb := hrb.below hb02 rfl
  have HZ := Lib.hid (lst_zero (com a b 0) (com_zero a b) (b.length + 1))
  clear hra hrb hb1 hb2
  go_wp2_with (at_make; refine make_ints rfl _ _ 39 rfl 3 Try.underlying39 (by kernel_rfl) w2.heap.size (b.length + 1) rfl rfl (by omega) (Nat.le_refl _) ?_; intro w3 hown hb3 hz3)
  go_loopw [5, 6] (fun v i wr => ∃ n : Nat, n ≤ a.length ∧ i = .int .i64 ((n : Int) + 1) ∧ OwnI 3 w2.heap.size wr v (lst (com a b n) (b.length + 1)) ∧ Below w2.heap.size w2 wr) (fun _ i _ => a.length + 1 - (intOf i).toNat)
  case atStart => exact ⟨0, by omega, rfl, by rw [HZ.out]; exact hown, hb3⟩
  case round =>
    obtain ⟨n, hn, rfl, hrow, hbr⟩ := hrel
    obtain ⟨wo, hwo⟩ : ∃ wo, wo = wr := ⟨wr, rfl⟩
    subst hwo
    clear hown hb3 hz3
    by_cases hln : n < a.length
    · have HO := Lib.hid (show lst (com a b (n + 1)) 1 = [(0 : Int)] by rw [lst_one]; unfold com; rfl)
      have hBr := hbr.size
      obtain ⟨Av, cv, rfl, _, _, hrr⟩ := hrow.rd
      have hrlen : (lst (com a b n) (b.length + 1)).length = b.length + 1 := lst_len _ _
      rw [hrlen] at hrow ⊢
      have HRL := Lib.hid hrlen
      clear hrlen
      have h0x : decide ((n : Int) + 1 ≤ (a.length : Int)) = true := decide_eq_true (by omega)
      go_wp2
      go_loopw [7, 8] (fun v i wt => ∃ m : Nat, m ≤ b.length ∧ i = .int .i64 ((m : Int) + 1) ∧ OwnI 3 wo.heap.size wt v (lst (com a b (n + 1)) (m + 1)) ∧ Below wo.heap.size wo wt) (fun _ i _ => b.length + 1 - (intOf i).toNat)
      case atStart => exact ⟨0, by omega, rfl, by rw [HO.out]; exact OwnI.lit1 _ _ _, (Below.refl _ _).alloc (Nat.le_refl _) _⟩
      case round =>
        obtain ⟨m, hm, rfl, hnx, hbt⟩ := hrel
        by_cases hlm : m < b.length
        · obtain ⟨b1, o1, rfl, l1, hc1⟩ := hrr (by rw [HRL.out]; omega)
          have hbs2 := hbr.trans (hbt.mono hBr)
          have r1 := (hbt.cell (p := ⟨b1, o1 + m, none⟩) l1).trans (hc1 m (by rw [HRL.out]; omega))
          have r2 := (hbt.cell (p := ⟨b1, o1 + (m + 1), none⟩) l1).trans (hc1 (m + 1) (by rw [HRL.out]; omega))
          rw [lst_get (by omega)] at r1 r2
          obtain ⟨b2, o2, rfl, l2, hc2⟩ := ra (by omega)
          obtain ⟨b3, o3, rfl, l3, hc3⟩ := rb (by omega)
          have p1 := (hbs2.cell (p := ⟨b2, o2 + n * 2 + 1, none⟩) l2).trans (hc2 n hln).2
          have p2 := (hbs2.cell (p := ⟨b3, o3 + m * 2 + 1, none⟩) l3).trans (hc3 m hlm).2
          obtain ⟨Ax, cx, rfl, _, _, _⟩ := hnx.rd
          have hxlen : (lst (com a b (n + 1)) (m + 1)).length = m + 1 := lst_len _ _
          have hx9 : (lst (com a b (n + 1)) (m + 1)).length ≤ 1000000000 := by omega
          rw [hxlen] at hnx ⊢
          obtain ⟨g, he, _, hgl, hcn, _⟩ := hnx.head (by rw [hxlen]; omega)
          subst he
          have s1 := hcn m (by rw [hxlen]; omega)
          rw [lst_get (by omega)] at s1
          have HX := Lib.hid (lst_snoc (com a b (n + 1)) (m + 1))
          have hbT := hbt.size
          have hg1 := com_rng a b n m
          have hg2 := com_rng a b n (m + 1)
          have hg3 := com_rng a b (n + 1) m
          have h0a : (0 : Int) ≤ (n : Int) := by omega
          have h0b : (n : Int) < (a.length : Int) := by omega
          have h0c : (0 : Int) ≤ (m : Int) := by omega
          have h0d : (m : Int) < (b.length : Int) := by omega
          have h0e : (m : Int) + 1 < (b.length : Int) + 1 := by omega
          have h0f : (0 : Int) ≤ (m : Int) + 1 := by omega
          have h0g : (m : Int) < (m : Int) + 1 := by omega
          have h0h : (m : Int) < (b.length : Int) + 1 := by omega
          have HI := Lib.hid (show IntKind.i64.wrap ((n : Int) + 1 - 1) = (n : Int) by rw [show (n : Int) + 1 - 1 = (n : Int) by omega]; exact IntWalk.i64_in _ (by omega))
          have HJ := Lib.hid (show IntKind.i64.wrap ((m : Int) + 1 - 1) = (m : Int) by rw [show (m : Int) + 1 - 1 = (m : Int) by omega]; exact IntWalk.i64_in _ (by omega))
          have HK := Lib.hid (show IntKind.i64.wrap (n : Int) = (n : Int) from IntWalk.i64_in _ (by omega))
          have HL := Lib.hid (show IntKind.i64.wrap (m : Int) = (m : Int) from IntWalk.i64_in _ (by omega))
          clear hcn hxlen hc1 hc2 hc3
          by_cases he : pt a n = pt b m
          · have HV := Lib.hid (com_eq he)
            have hq : (pt a n == pt b m) = true := by simpa using he
            clear he
            go_wp2_with fail
            have q1 := HI.out
            have q2 := HJ.out
            have q3 := HK.out
            have q4 := HL.out
            go_quiet (fail)
            go_wp2_with fail
            all_goals (go_quiet (fail))
            all_goals (clear q1 q2 q3 q4)
            all_goals
              go_wp2_with (at_builtin; refine app_int rfl _ _ 39 rfl 3 Try.underlying39 (by kernel_rfl) wo.heap.size _ (lst (com a b (n + 1)) (m + 1)) _ (hnx.below (bel_drewN (Below.refl _ _) _) rfl) rfl rfl hx9 (by first | exact hbT | (simp; exact hbT)) ?_; intro v' w3 hown3 hbn3)
            all_goals
              go_roundw
              case rel => first | exact ⟨m + 1, by omega, by go_num, by rw [HX.out, HV.out]; exact hown3.last (by omega), (bel_drewN hbt _).trans hbn3⟩ | ((repeat apply Exists.intro); exact ⟨⟨m + 1, by omega, by go_num, by rw [HX.out, HV.out]; exact hown3.last (by omega), (bel_drewN hbt _).trans hbn3⟩, rfl⟩)
              case measure => simp [intOf]; omega
          · have HV := Lib.hid (com_ne he)
            have hq : (pt a n == pt b m) = false := by simpa using he
            clear he
            go_wp2_with fail
            have q1 := HI.out
            have q2 := HJ.out
            have q3 := HK.out
            have q4 := HL.out
            go_quiet (fail)
            go_wp2_with fail
            all_goals (go_quiet (fail))
            all_goals (clear q1 q2 q3 q4)
            all_goals
              go_wp2_with (at_builtin; refine app_int rfl _ _ 39 rfl 3 Try.underlying39 (by kernel_rfl) wo.heap.size _ (lst (com a b (n + 1)) (m + 1)) _ (hnx.below (bel_drewN (Below.refl _ _) _) rfl) rfl rfl hx9 (by first | exact hbT | (simp; exact hbT)) ?_; intro v' w3 hown3 hbn3)
            all_goals
              go_roundw
              case rel => first | exact ⟨m + 1, by omega, by go_num, by rw [HX.out, HV.out]; exact hown3.last (by omega), (bel_drewN hbt _).trans hbn3⟩ | ((repeat apply Exists.intro); exact ⟨⟨m + 1, by omega, by go_num, by rw [HX.out, HV.out]; exact hown3.last (by omega), (bel_drewN hbt _).trans hbn3⟩, rfl⟩)
              case measure => simp [intOf]; omega
        · obtain rfl : m = b.length := by omega
          go_wp2
          go_roundw
          case rel => exact ⟨n + 1, by omega, by go_num, hnx.base_le hBr, hbr.trans (hbt.mono hBr)⟩
          case measure => simp [intOf]; omega
    · obtain rfl : n = a.length := by omega
      obtain ⟨Av, cv, rfl, _, _, hrr⟩ := hrow.rd
      have hrlen := lst_len (com a b a.length) (b.length + 1)
      obtain ⟨b1, o1, rfl, l1, hc1⟩ := hrr (by omega)
      have r1 := hc1 b.length (by omega)
      rw [lst_get (by omega)] at r1
      rw [hrlen]
      have h0a : (b.length : Int) < (b.length : Int) + 1 := by omega
      clear hc1 hrr hrow hrlen
      go_wp2
      go_ret
      exact ⟨rfl, hb02.trans (hbr.mono hb02.size)⟩
end Go.Proofs.Ytaofflohfpodfaa
