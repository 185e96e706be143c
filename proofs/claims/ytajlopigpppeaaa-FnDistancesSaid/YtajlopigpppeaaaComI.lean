/- The pitches that two tunes have in common: the program's own; both functions for all arguments. -/
import Derived.Test.YtajlopigpppeaaaCom
import Derived.Test.YtajlopigpppeaaaDistC
import Derived.Laws.Cover1
namespace Go.Proofs.Ytajlopigpppeaaa
open Go.ChangeShapes Go.WideShapes Go.ChangeAt Go.RowKit
set_option linter.unusedVariables false
attribute [local irreducible] tm pt tuneB lst in
set_option maxHeartbeats 1600000 in
theorem impl_Com_ok (A B : Option Addr) (c d : Nat) (a b : List (Int × Int)) (w : World) (hra : RdN w A a) (hrb : RdN w B b) (hla : a.length ≤ 100000) (hlb : b.length ≤ 100000) (hA : tuneB a = true) (hB : tuneB b = true) :
    Calls Try.prog 33 #[.slice A a.length c, .slice B b.length d] w fun e w' => e = .returned (.int .i64 (com a b a.length b.length)) ∧ Below w.heap.size w w' := by
  have HA := Lib.hid hA
  have HB := Lib.hid hB
  clear hA hB
  go_enter Try.func33, Try.ntmps33
  go_wp2_with fail
  refine (impl_TuneOk _ _ _ _ hra (by omega)).mono ?_
  rintro e w1 ⟨rfl, hb1⟩
  rw [HA.out]
  go_wp2_with fail
  refine (impl_TuneOk _ _ _ _ (hrb.below hb1 rfl) (by omega)).mono ?_
  rintro e w2 ⟨rfl, hb2⟩
  rw [HB.out]
  have hb02 := hb1.trans (hb2.mono hb1.size)
  have ra := hra.below hb02 rfl
  have rb := hrb.below hb02 rfl
  clear hra hrb hb1 hb2
  have HZ := Lib.hid (lst_zero (com a b 0) (com_zero a b) (b.length + 1))
  go_wp2_with (at_make; refine make_ints rfl _ _ 24 rfl 3 Try.underlying24 (by kernel_rfl) w2.heap.size (b.length + 1) rfl rfl (by omega) (Nat.le_refl _) ?_; intro w3 hown hb3 hz3)
  go_loopw [5, 26] (fun v i wr => ∃ n : Nat, n ≤ a.length ∧ i = .int .i64 n ∧ OwnI 3 w2.heap.size wr v (lst (com a b n) (b.length + 1)) ∧ Below w2.heap.size w2 wr) (fun _ i _ => a.length - (intOf i).toNat)
  case atStart => exact ⟨0, by omega, rfl, by rw [HZ.out]; exact hown, hb3⟩
  case round =>
    obtain ⟨n, hn, rfl, hrow, hbr⟩ := hrel
    obtain ⟨wo, hwo⟩ : ∃ wo, wo = wr := ⟨wr, rfl⟩
    subst hwo
    clear hown hb3 hz3
    by_cases hln : n < a.length
    · have HO := Lib.hid (show lst (com a b (n + 1)) 1 = [(0 : Int)] by rw [lst_one]; unfold com; rfl)
      have hBr := hbr.size
      obtain ⟨Av, cv, rfl, _, _, hrr⟩ := hrow.rd
      have hrlen : (lst (com a b n) (b.length + 1)).length = b.length + 1 := lst_len _ _
      rw [hrlen] at hrow ⊢
      obtain ⟨b2, o2, rfl, l2, hc2⟩ := ra (by omega)
      have p0 := (hbr.cell (p := ⟨b2, o2 + n * 2, none⟩) l2).trans (hc2 n hln).1
      have p1 := (hbr.cell (p := ⟨b2, o2 + n * 2 + 1, none⟩) l2).trans (hc2 n hln).2
      obtain ⟨W, hW⟩ : ∃ W, W = wo.alloc (Obj.cells #[.int .i64 (tm a n), .int .i64 (pt a n)] 42) := ⟨_, rfl⟩
      have hBW : Below wo.heap.size wo W := by rw [hW]; exact (Below.refl _ _).alloc (Nat.le_refl _) _
      have hWs : W.heap.size = wo.heap.size + 1 := by rw [hW]; simp
      have n1 : W.cell? ⟨wo.heap.size, 1, none⟩ = some (.int .i64 (pt a n)) := by rw [hW]; simp [go_sem]
      have HW := Lib.hid hW
      have HWs := Lib.hid hWs
      have HBW := Lib.hid (hbr.trans (hBW.mono hBr))
      have rrW := hrr.below hBW rfl
      obtain ⟨S, hS⟩ : ∃ S, S = wo.heap.size := ⟨_, rfl⟩
      have hSW : S < W.heap.size := by omega
      have h0a : (0 : Int) ≤ (n : Int) := by omega
      have h0b : (n : Int) < (a.length : Int) := by omega
      clear hW hBW hWs hc2 hrr
      go_wp2_with fail
      rw [← HW.out]
      go_loopw [8, 33] (fun v i wt => ∃ m : Nat, m ≤ b.length ∧ i = .int .i64 m ∧ OwnI 3 W.heap.size wt v (lst (com a b (n + 1)) (m + 1)) ∧ Below W.heap.size W wt) (fun _ i _ => b.length - (intOf i).toNat)
      case atStart => exact ⟨0, by omega, rfl, by rw [HO.out, ← HWs.out]; exact OwnI.lit1 _ _ _, (Below.refl _ _).alloc (Nat.le_refl _) _⟩
      case round =>
        obtain ⟨m, hm, rfl, hnx, hbt⟩ := hrel
        by_cases hlm : m < b.length
        · obtain ⟨b3, o3, rfl, l3, hc3⟩ := rb (by omega)
          have hbs2 := HBW.out.trans (hbt.mono HBW.out.size)
          have p2 := (hbs2.cell (p := ⟨b3, o3 + m * 2, none⟩) l3).trans (hc3 m hlm).1
          have p3 := (hbs2.cell (p := ⟨b3, o3 + m * 2 + 1, none⟩) l3).trans (hc3 m hlm).2
          have k1 := (hbt.cell (p := ⟨wo.heap.size, 1, none⟩) (hS ▸ hSW)).trans n1
          obtain ⟨V, hV⟩ : ∃ V, V = wr.alloc (Obj.cells #[.int .i64 (tm b m), .int .i64 (pt b m)] 42) := ⟨_, rfl⟩
          have hBV : Below wr.heap.size wr V := by rw [hV]; exact (Below.refl _ _).alloc (Nat.le_refl _) _
          have hVs : V.heap.size = wr.heap.size + 1 := by rw [hV]; simp
          have n2 : V.cell? ⟨wr.heap.size, 1, none⟩ = some (.int .i64 (pt b m)) := by rw [hV]; simp [go_sem]
          have k2 := (hBV.cell (p := ⟨wo.heap.size, 1, none⟩) (Nat.lt_of_lt_of_le (hS ▸ hSW) hbt.size)).trans k1
          have HV := Lib.hid hV
          have HVs := Lib.hid hVs
          have HbtV := Lib.hid (hbt.trans (hBV.mono hbt.size))
          have hnV := hnx.below hBV rfl
          have hbV := hbs2.trans (hBV.mono hbs2.size)
          obtain ⟨b1, o1, rfl, l1, hc1⟩ := rrW (by rw [hrlen]; omega)
          have r1 := (HbtV.out.cell (p := ⟨b1, o1 + m, none⟩) l1).trans (hc1 m (by rw [hrlen]; omega))
          have r2 := (HbtV.out.cell (p := ⟨b1, o1 + (m + 1), none⟩) l1).trans (hc1 (m + 1) (by rw [hrlen]; omega))
          rw [lst_get (by omega)] at r1 r2
          obtain ⟨Ax, cx, rfl, _, _, _⟩ := hnV.rd
          have hxlen : (lst (com a b (n + 1)) (m + 1)).length = m + 1 := lst_len _ _
          have hx9 : (lst (com a b (n + 1)) (m + 1)).length ≤ 1000000000 := by omega
          rw [hxlen] at hnV ⊢
          obtain ⟨g, he, hgW, hgl, hcn, _⟩ := hnV.head (by rw [hxlen]; omega)
          subst he
          have s1 := hcn m (by rw [hxlen]; omega)
          rw [lst_get (by omega)] at s1
          have HX := Lib.hid (lst_snoc (com a b (n + 1)) (m + 1))
          have hbT := HbtV.out.size
          have hg1 := com_rng a b n m
          have hg2 := com_rng a b n (m + 1)
          have hg3 := com_rng a b (n + 1) m
          have h0c : (0 : Int) ≤ (m : Int) := by omega
          have h0d : (m : Int) < (b.length : Int) := by omega
          have h0e : (m : Int) + 1 < (b.length : Int) + 1 := by omega
          have h0f : (0 : Int) ≤ (m : Int) + 1 := by omega
          have h0h : (m : Int) < (b.length : Int) + 1 := by omega
          have h0g : (m : Int) < (m : Int) + 1 := by omega
          have hne : b1 ≠ g := by omega
          have mb1 : b1 < V.heap.size := by omega
          have HL := Lib.hid (show IntKind.i64.wrap ((m : Int) + 1) = (m : Int) + 1 from IntWalk.i64_in _ (by omega))
          have HL1 := Lib.hid (show IntKind.i64.wrap (com a b n (m + 1) + 1) = com a b n (m + 1) + 1 from IntWalk.i64_in _ (by omega))
          have HL2 := Lib.hid (show IntKind.i64.wrap (com a b (n + 1) m + 1) = com a b (n + 1) m + 1 from IntWalk.i64_in _ (by omega))
          have r1a : (wr.alloc (Obj.cells #[.int .i64 (tm b m), .int .i64 (pt b m)] 42)).cell? ⟨b1, o1 + m, none⟩ = some (.int .i64 (com a b n m)) := by rw [← hV]; exact r1
          have k2a : (wr.alloc (Obj.cells #[.int .i64 (tm b m), .int .i64 (pt b m)] 42)).cell? ⟨wo.heap.size, 1, none⟩ = some (.int .i64 (pt a n)) := by rw [← hV]; exact k2
          clear hcn hxlen hc1 hc3 hV hBV hVs rb hbs2 hnx hbt
          by_cases he : pt a n = pt b m
          · have HC := Lib.hid (com_eq he)
            have hq : (pt a n == pt b m) = true := by simpa using he
            clear he
            go_wp2_with fail
            rw [← HV.out]
            have q1 := HL.out
            go_quiet (fail)
            all_goals (clear q1)
            all_goals
              go_wp2_with (at_builtin; refine app_int rfl _ _ 24 rfl 3 Try.underlying24 (by kernel_rfl) W.heap.size _ (lst (com a b (n + 1)) (m + 1)) _ (hnV.below (bel_drewN (Below.refl _ _) _) rfl) rfl rfl hx9 (by first | exact hbT | (simp; exact hbT)) ?_; intro v' w3 hown3 hbn3)
            all_goals
              go_roundw
              case rel => first | exact ⟨m + 1, by omega, by go_num, by rw [HX.out, HC.out]; exact hown3.last (by omega), (bel_drewN HbtV.out _).trans hbn3⟩ | ((repeat apply Exists.intro); exact ⟨⟨m + 1, by omega, by go_num, by rw [HX.out, HC.out]; exact hown3.last (by omega), (bel_drewN HbtV.out _).trans hbn3⟩, rfl⟩)
              case measure => simp [intOf]; omega
          · have HC := Lib.hid (com_ne he)
            have hq : (pt a n == pt b m) = false := by simpa using he
            clear he
            go_wp2_with fail
            rw [← HV.out]
            have q1 := HL.out
            go_quiet (fail)
            all_goals (clear q1)
            all_goals
              go_wp2_with (at_builtin; refine app_int rfl _ _ 24 rfl 3 Try.underlying24 (by kernel_rfl) W.heap.size _ (lst (com a b (n + 1)) (m + 1)) _ (hnV.below (bel_drewN (Below.refl _ _) _) rfl) rfl rfl hx9 (by first | exact hbT | (simp; exact hbT)) ?_; intro v' w3 hown3 hbn3)
            all_goals
              go_roundw
              case rel => first | exact ⟨m + 1, by omega, by go_num, by rw [HX.out, HC.out]; exact hown3.last (by omega), (bel_drewN HbtV.out _).trans hbn3⟩ | ((repeat apply Exists.intro); exact ⟨⟨m + 1, by omega, by go_num, by rw [HX.out, HC.out]; exact hown3.last (by omega), (bel_drewN HbtV.out _).trans hbn3⟩, rfl⟩)
              case measure => simp [intOf]; omega
        · obtain rfl : m = b.length := by omega
          go_wp2
          go_roundw
          case rel => exact ⟨n + 1, by omega, by go_num, hnx.base_le HBW.out.size, HBW.out.trans (hbt.mono HBW.out.size)⟩
          case measure => simp [intOf]; omega
    · obtain rfl : n = a.length := by omega
      obtain ⟨Av, cv, rfl, _, _, hrr⟩ := hrow.rd
      have hrlen := lst_len (com a b a.length) (b.length + 1)
      obtain ⟨b1, o1, rfl, l1, hc1⟩ := hrr (by omega)
      have r1 := hc1 b.length (by omega)
      rw [lst_get (by omega)] at r1
      rw [hrlen]
      have h0a : (b.length : Int) < (b.length : Int) + 1 := by omega
      clear hc1 hrr hrow hrlen
      go_wp2
      go_ret
      exact ⟨rfl, hb02.trans (hbr.mono hb02.size)⟩
noncomputable def comB (a b : List (Int × Int)) : Int := if tuneB a = true ∧ tuneB b = true then com a b a.length b.length else -1
theorem comB_yes {a b : List (Int × Int)} (ha : tuneB a = true) (hb : tuneB b = true) : comB a b = com a b a.length b.length := if_pos ⟨ha, hb⟩
theorem comB_no {a b : List (Int × Int)} (h : ¬ (tuneB a = true ∧ tuneB b = true)) : comB a b = -1 := if_neg h
set_option maxHeartbeats 800000 in
theorem impl_Com (A B : Option Addr) (c d : Nat) (a b : List (Int × Int)) (w : World) (hra : RdN w A a) (hrb : RdN w B b) (hla : a.length ≤ 1000000000) (hlb : b.length ≤ 1000000000) :
    Calls Try.prog 33 #[.slice A a.length c, .slice B b.length d] w fun e w' => e = .returned (.int .i64 (comB a b)) ∧ Below w.heap.size w w' := by
  cases hA : tuneB a
  · have HV := Lib.hid (comB_no (a := a) (b := b) (by rw [hA]; simp))
    have HA := Lib.hid hA
    clear hA
    go_enter Try.func33, Try.ntmps33
    go_wp2_with fail
    refine (impl_TuneOk _ _ _ _ hra (by omega)).mono ?_
    rintro e w1 ⟨rfl, hb1⟩
    rw [HA.out]
    go_wp2
    go_ret
    exact ⟨ret_int HV.out.symm, hb1⟩
  · cases hB : tuneB b
    · have HV := Lib.hid (comB_no (a := a) (b := b) (by rw [hB]; simp))
      have HA := Lib.hid hA
      have HB := Lib.hid hB
      clear hA hB
      go_enter Try.func33, Try.ntmps33
      go_wp2_with fail
      refine (impl_TuneOk _ _ _ _ hra (by omega)).mono ?_
      rintro e w1 ⟨rfl, hb1⟩
      rw [HA.out]
      go_wp2_with fail
      refine (impl_TuneOk _ _ _ _ (hrb.below hb1 rfl) (by omega)).mono ?_
      rintro e w2 ⟨rfl, hb2⟩
      rw [HB.out]
      go_wp2
      go_ret
      exact ⟨ret_int HV.out.symm, hb1.trans (hb2.mono hb1.size)⟩
    · have h1 := tune_len hA
      have h2 := tune_len hB
      rw [comB_yes hA hB]
      exact impl_Com_ok A B c d a b w hra hrb (by omega) (by omega) hA hB
end Go.Proofs.Ytajlopigpppeaaa
