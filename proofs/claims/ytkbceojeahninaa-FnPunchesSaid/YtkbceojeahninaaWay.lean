/- The cost of a way over the pins of a cylinder: plain part, the program and the reference. -/
import Derived.Test.YtkbceojeahninaaCylOk
import Derived.Test.YtkbceojeahninaaPerm
import Derived.Test.YtkbceojeahninaaHeld
import Derived.Test.YtkbceojeahninaaMove
namespace Go.Proofs.Ytkbceojeahninaa
open Go.ChangeShapes Go.WideShapes Go.ChangeAt Go.RowKit
set_option linter.unusedVariables false
def mvZ (s : Int) (P : List (Int × Int)) (x y : Nat) : Int := moveZ (tm P x) (pt P x) (tm P y) (pt P y) s
theorem mvZ_bd (s : Int) (P : List (Int × Int)) (x y : Nat) : -1 ≤ mvZ s P x y ∧ mvZ s P x y ≤ 1100 := by
  unfold mvZ moveZ moveG
  have h := gapZ_bd (pt P x) (pt P y) s
  split
  · rename_i h1
    unfold moveOk at h1
    omega
  · omega
def wayTo (s : Int) (P : List (Int × Int)) (l : List Int) : Nat → Int
  | 0 => 0
  | k + 1 => if k = 0 then 0 else wayTo s P l k + mvZ s P (gt l (k - 1)).toNat (gt l k).toNat
theorem way_one (s : Int) (P : List (Int × Int)) (l : List Int) : wayTo s P l 1 = 0 := rfl
theorem way_zero (s : Int) (P : List (Int × Int)) (l : List Int) : wayTo s P l 0 = 0 := rfl
theorem way_next {s : Int} {P : List (Int × Int)} {l : List Int} {m x y : Nat} (hx : gt l m = (x : Int)) (hy : gt l (m + 1) = (y : Int)) : wayTo s P l (m + 1 + 1) = wayTo s P l (m + 1) + mvZ s P x y := by
  rw [wayTo, if_neg (by omega), show m + 1 - 1 = m by omega, hx, hy]; rfl
theorem way_bd (s : Int) (P : List (Int × Int)) (l : List Int) : ∀ k : Nat, -(k : Int) ≤ wayTo s P l k ∧ wayTo s P l k ≤ 1100 * (k : Int)
  | 0 => by rw [way_zero]; omega
  | k + 1 => by
    have h1 := way_bd s P l k
    have h2 := mvZ_bd s P (gt l (k - 1)).toNat (gt l k).toNat
    unfold wayTo
    split <;> omega
noncomputable def wayZ (s t : Int) (P : List (Int × Int)) (l : List Int) : Int := if cylB s t P = true ∧ prmB l P.length = true then wayTo s P l l.length else -1
theorem way_yes {s t : Int} {P : List (Int × Int)} {l : List Int} (h1 : cylB s t P = true) (h2 : prmB l P.length = true) : wayZ s t P l = wayTo s P l l.length := if_pos ⟨h1, h2⟩
theorem way_no {s t : Int} {P : List (Int × Int)} {l : List Int} (h : ¬ (cylB s t P = true ∧ prmB l P.length = true)) : wayZ s t P l = -1 := if_neg h
theorem cyl_len {s t : Int} {P : List (Int × Int)} (h : cylB s t P = true) : P.length ≤ 100 := (of_decide_eq_true h : cylP s t P).2.2.1
theorem prm_at {l : List Int} {n k : Nat} (h : prmB l n = true) (hk : k < l.length) : 0 ≤ gt l k ∧ gt l k < (n : Int) := ((of_decide_eq_true h : prmP l n).2 k hk).1
theorem prm_ln {l : List Int} {n : Nat} (h : prmB l n = true) : l.length = n := (of_decide_eq_true h : prmP l n).1
attribute [local irreducible] tm pt gt cylB prmB wayTo mvZ moveZ in
set_option maxHeartbeats 1600000 in
theorem impl_Way (s t : Int) (A B : Option Addr) (c d : Nat) (P : List (Int × Int)) (l : List Int) (w : World) (hrd : RdN w A P) (hro : RdI w B l) (hP : P.length ≤ 1000000000) (hl : l.length ≤ 1000000000) :
    Calls Try.prog 40 #[.agg #[.int .i64 s, .int .i64 t, .slice A P.length c], .slice B l.length d] w fun e w' => e = .returned (.int .i64 (wayZ s t P l)) ∧ Below w.heap.size w w' := by
  obtain ⟨W0, hW0⟩ : ∃ W, W = w.alloc (.cells #[.int .i64 s, .int .i64 t, .slice A P.length c] 56) := ⟨_, rfl⟩
  have hb0 : Below w.heap.size w W0 := by rw [hW0]; exact (Below.refl _ _).alloc (Nat.le_refl _) _
  have s0 : w.heap.size < W0.heap.size := by rw [hW0]; simp
  have a0 : W0.cell? ⟨w.heap.size, 0, none⟩ = some (.int .i64 s) := by rw [hW0]; simp [go_sem]
  have a1 : W0.cell? ⟨w.heap.size, 1, none⟩ = some (.int .i64 t) := by rw [hW0]; simp [go_sem]
  have a2 : W0.cell? ⟨w.heap.size, 2, none⟩ = some (.slice A P.length c) := by rw [hW0]; simp [go_sem]
  have hrd0 := hrd.below hb0 rfl
  have hro0 := hro.below hb0 rfl
  have HW0 := Lib.hid hW0
  clear hW0 hrd hro
  cases hC : cylB s t P
  · have HF := Lib.hid (way_no (s := s) (t := t) (P := P) (l := l) (by rw [hC]; simp))
    have HC := Lib.hid hC
    clear hC
    go_enter Try.func40, Try.ntmps40
    go_wp2_with fail
    rw [← HW0.out]
    refine (impl_CylOk _ _ _ _ _ _ hrd0 hP).mono ?_
    rintro e w1 ⟨rfl, hb1⟩
    rw [HC.out]
    go_wp2
    go_ret
    exact ⟨ret_int HF.out.symm, hb0.trans (hb1.mono (Nat.le_of_lt s0))⟩
  · have hP100 := cyl_len hC
    have HC := Lib.hid hC
    cases hR : prmB l P.length
    · have HF := Lib.hid (way_no (s := s) (t := t) (P := P) (l := l) (by rw [hR]; simp))
      have HR := Lib.hid hR
      clear hC hR
      go_enter Try.func40, Try.ntmps40
      go_wp2_with fail
      rw [← HW0.out]
      refine (impl_CylOk _ _ _ _ _ _ hrd0 hP).mono ?_
      rintro e w1 ⟨rfl, hb1⟩
      rw [HC.out]
      have e2 := (hb1.cell (p := ⟨w.heap.size, 2, none⟩) s0).trans a2
      go_wp2_with fail
      refine (perm_any _ _ _ _ _ (hro0.below hb1 rfl) hl).mono ?_
      rintro e w2 ⟨rfl, hb2⟩
      rw [HR.out]
      have hb02 := hb0.trans ((hb1.trans (hb2.mono hb1.size)).mono (Nat.le_of_lt s0))
      go_wp2
      go_ret
      exact ⟨ret_int HF.out.symm, hb02⟩
    · have HF := Lib.hid (way_yes hC hR)
      have HR := Lib.hid hR
      have HL := Lib.hid (prm_ln hR)
      have hll : l.length ≤ 100 := by have := prm_ln hR; omega
      have HA := Lib.hid (fun (k : Nat) (hk : k < l.length) => prm_at hR hk)
      have HB := Lib.hid (way_bd s P l)
      have HM := Lib.hid (mvZ_bd s P)
      have HX := Lib.hid (fun (m x y : Nat) hx hy => way_next (s := s) (P := P) (l := l) (m := m) (x := x) (y := y) hx hy)
      have H1 := Lib.hid (way_one s P l)
      have H0 := Lib.hid (way_zero s P l)
      clear hC hR
      go_enter Try.func40, Try.ntmps40
      go_wp2_with fail
      rw [← HW0.out]
      refine (impl_CylOk _ _ _ _ _ _ hrd0 hP).mono ?_
      rintro e w1 ⟨rfl, hb1⟩
      rw [HC.out]
      have e2 := (hb1.cell (p := ⟨w.heap.size, 2, none⟩) s0).trans a2
      go_wp2_with fail
      refine (perm_any _ _ _ _ _ (hro0.below hb1 rfl) hl).mono ?_
      rintro e w2 ⟨rfl, hb2⟩
      rw [HR.out]
      have hb02 := hb1.trans (hb2.mono hb1.size)
      clear e2
      go_wp2
      go_loopw [5, 6] (fun v i wr => ∃ k : Nat, 1 ≤ k ∧ k ≤ max 1 l.length ∧ v = .int .i64 (wayTo s P l k) ∧ i = .int .i64 (k : Int) ∧ Below W0.heap.size W0 wr) (fun _ i _ => 101 - (intOf i).toNat)
      case atStart => exact ⟨1, by omega, by omega, by rw [H1.out], rfl, hb02⟩
      case round =>
        obtain ⟨k, hk1, hkl, rfl, rfl, hb⟩ := hrel
        have hbs := hb.size
        by_cases hlt : k < l.length
        · obtain ⟨m, hkm⟩ : ∃ m, k = m + 1 := ⟨k - 1, by omega⟩
          obtain ⟨x, hx⟩ : ∃ x : Nat, gt l m = (x : Int) := ⟨(gt l m).toNat, by have := HA.out m (by omega); omega⟩
          obtain ⟨y, hy⟩ : ∃ y : Nat, gt l k = (y : Int) := ⟨(gt l k).toNat, by have := HA.out k hlt; omega⟩
          have hxP : x < P.length := by have := HA.out m (by omega); omega
          have hyP : y < P.length := by have := HA.out k hlt; omega
          have HN := Lib.hid (show wayTo s P l (k + 1) = wayTo s P l k + mvZ s P x y by have := HX.out m x y hx (by rw [← hkm]; exact hy); rw [hkm]; exact this)
          have hmb := HM.out x y
          have hwb := HB.out k
          obtain ⟨b, o, rfl, lb, hc⟩ := hrd0 (by omega)
          obtain ⟨b2, o2, rfl, lb2, hc2⟩ := hro0 (by omega)
          have e0 := (hb.cell (p := ⟨w.heap.size, 0, none⟩) s0).trans a0
          have e2 := (hb.cell (p := ⟨w.heap.size, 2, none⟩) s0).trans a2
          have p1 := (hb.cell (p := ⟨b, o + x * 2, none⟩) lb).trans (hc x hxP).1
          have p2 := (hb.cell (p := ⟨b, o + x * 2 + 1, none⟩) lb).trans (hc x hxP).2
          have p3 := (hb.cell (p := ⟨b, o + y * 2, none⟩) lb).trans (hc y hyP).1
          have p4 := (hb.cell (p := ⟨b, o + y * 2 + 1, none⟩) lb).trans (hc y hyP).2
          have q1 := (hb.cell (p := ⟨b2, o2 + m, none⟩) lb2).trans (hc2 m (by omega))
          have q2 := (hb.cell (p := ⟨b2, o2 + k, none⟩) lb2).trans (hc2 k hlt)
          rw [hx] at q1
          rw [hy] at q2
          have g0 : w.heap.size < wr.heap.size := by omega
          have gb : b < wr.heap.size := by omega
          have gb2 : b2 < wr.heap.size := by omega
          have h0a : (0 : Int) ≤ (m : Int) := by omega
          have h0b : (m : Int) < (l.length : Int) := by omega
          have h0c : (k : Int) < (l.length : Int) := by omega
          have h0d : (x : Int) < (P.length : Int) := by omega
          have h0e : (y : Int) < (P.length : Int) := by omega
          have h0f : (0 : Int) ≤ (k : Int) := by omega
          have h0g : (0 : Int) ≤ (x : Int) := by omega
          have h0h : (0 : Int) ≤ (y : Int) := by omega
          have HW1 := Lib.hid (show IntKind.i64.wrap ((k : Int) - 1) = (m : Int) by rw [show ((k : Int) - 1) = (m : Int) by omega]; exact IntWalk.i64_in _ (by omega))
          have HW2 := Lib.hid (show IntKind.i64.wrap (wayTo s P l k + mvZ s P x y) = wayTo s P l k + mvZ s P x y from IntWalk.i64_in _ (by omega))
          obtain ⟨V, hV⟩ : ∃ V, V = wayTo s P l k := ⟨_, rfl⟩
          rw [← hV] at HN hwb HW2 ⊢
          have HMV := Lib.hid (show moveZ (tm P x) (pt P x) (tm P y) (pt P y) s = mvZ s P x y by unfold mvZ; rfl)
          clear hc hc2 hx hy hV hkm
          go_wp2_with fail
          have hw1 := HW1.out
          have hw2 := HW2.out
          go_region_held3 (fun w' => w'.cell? ⟨w.heap.size, 0, none⟩ = some (.int .i64 s) ∧ w'.cell? ⟨w.heap.size, 2, none⟩ = some (.slice (some ⟨b, o, none⟩) P.length c) ∧ w'.cell? ⟨b, o + x * 2, none⟩ = some (.int .i64 (tm P x)) ∧ w'.cell? ⟨b, o + x * 2 + 1, none⟩ = some (.int .i64 (pt P x)) ∧ w'.cell? ⟨b, o + y * 2, none⟩ = some (.int .i64 (tm P y)) ∧ w'.cell? ⟨b, o + y * 2 + 1, none⟩ = some (.int .i64 (pt P y)) ∧ w'.cell? ⟨b2, o2 + m, none⟩ = some (.int .i64 (x : Int)) ∧ w'.cell? ⟨b2, o2 + k, none⟩ = some (.int .i64 (y : Int)) ∧ Below wr.heap.size wr w') (first | exact hd8_start e0 e2 p1 p2 p3 p4 q1 q2 rfl | assumption | exact hd8_keep g0 g0 gb gb gb gb gb2 gb2 (by assumption) hbz)
            ((go_at_call 42; refine (impl_Move _ _ _ _ _ _).mono ?_; rintro e wz ⟨rfl, hbz⟩; rw [HMV.out]))
          clear hw1 hw2
          rename_i hH
          have hb2 := hb.trans ((hd8_bel hH).mono hbs)
          go_wp2
          go_roundw
          case rel => exact ⟨k + 1, by omega, by omega, by rw [HN.out], by go_num, hb2⟩
          case measure => simp [intOf]; omega
        · have hbF := hb0.trans (hb.mono (Nat.le_of_lt s0))
          have HE := Lib.hid (show wayTo s P l k = wayTo s P l l.length by
            rcases Nat.eq_zero_or_pos l.length with h | h
            · rw [h, show k = 1 by omega, H1.out, H0.out]
            · rw [show k = l.length by omega])
          go_wp2
          go_ret
          exact ⟨ret_int (by rw [HF.out, HE.out]), hbF⟩
end Go.Proofs.Ytkbceojeahninaa
