/- The scales that a tune is in. -/
import Derived.Test.YtjfaodbjmanfnaaWrong
import Derived.Test.YtjfaodbjmanfnaaSteps
import Derived.Test.YtjfaodbjmanfnaaApp
namespace Go.Proofs.Ytjfaodbjmanfnaa
open Go.ChangeShapes Go.WideShapes Go.ChangeAt Go.RowKit
set_option linter.unusedVariables false
theorem andNot_nat (a b : Nat) (ha : a < 2 ^ 62) (hb : b < 2 ^ 62) : bits .andNot .i64 (a : Int) (b : Int) = (((a &&& b) ^^^ a : Nat) : Int) := by
  have hx : (a &&& b) ^^^ a < 2 ^ 62 := Nat.xor_lt_two_pow (Nat.and_lt_two_pow _ hb) ha
  show IntKind.i64.wrap ((BitVec.ofInt 64 (a : Int) &&& ~~~ BitVec.ofInt 64 (b : Int)).toNat : Int) = _
  have h : (BitVec.ofInt 64 (a : Int) &&& ~~~ BitVec.ofInt 64 (b : Int)) = (BitVec.ofInt 64 (a : Int) &&& BitVec.ofInt 64 (b : Int)) ^^^ BitVec.ofInt 64 (a : Int) := by
    apply BitVec.eq_of_getElem_eq
    intro i hi
    simp only [BitVec.getElem_and, BitVec.getElem_not, BitVec.getElem_xor]
    cases (BitVec.ofInt 64 (a : Int))[i] <;> cases (BitVec.ofInt 64 (b : Int))[i] <;> rfl
  rw [h, BitVec.toNat_xor, BitVec.toNat_and, ofInt_small a ha, ofInt_small b hb, IntKind.wrap_i64]
  omega
theorem sub_iff (a b : Nat) : (a &&& b) ^^^ a = 0 ↔ a ||| b = b := by
  constructor
  · intro h
    apply Nat.eq_of_testBit_eq
    intro i
    have := congrArg (fun x => x.testBit i) h
    simp only [Nat.testBit_xor, Nat.testBit_and, Nat.zero_testBit] at this
    rw [Nat.testBit_or]
    cases ha : a.testBit i <;> cases hb : b.testBit i <;> simp_all
  · intro h
    apply Nat.eq_of_testBit_eq
    intro i
    have := congrArg (fun x => x.testBit i) h
    simp only [Nat.testBit_or] at this
    rw [Nat.testBit_xor, Nat.testBit_and, Nat.zero_testBit]
    cases ha : a.testBit i <;> cases hb : b.testBit i <;> simp_all
def inSc (s k : Nat) : Bool := s ||| majN (k : Int) == majN (k : Int)
theorem inSc_a {s k : Nat} (hs : s < 4096) (hk : k < 12) : (bits BinOp.andNot IntKind.i64 (s : Int) (majN (k : Int) : Int) == 0) = inSc s k := by
  have hm := majN_lt (r := (k : Int)) ⟨by omega, by omega⟩
  rw [andNot_nat _ _ (by omega) (by omega), Bool.eq_iff_iff]
  unfold inSc
  rw [beq_iff_eq, beq_iff_eq, ← sub_iff]
  omega
theorem inSc_o {s k : Nat} (hs : s < 4096) (hk : k < 12) : (bits BinOp.or IntKind.i64 (s : Int) (majN (k : Int) : Int) == (majN (k : Int) : Int)) = inSc s k := by
  have hm := majN_lt (r := (k : Int)) ⟨by omega, by omega⟩
  rw [or_nat _ _ (by omega) (by omega), Bool.eq_iff_iff]
  unfold inSc
  rw [beq_iff_eq, beq_iff_eq]
  omega
def scfZ (s : Nat) : Nat → List Int
  | 0 => []
  | k + 1 => if inSc s k = true then scfZ s k ++ [(k : Int)] else scfZ s k
theorem scfZ_len (s : Nat) : ∀ k, (scfZ s k).length ≤ k
  | 0 => Nat.le_refl _
  | k + 1 => by have := scfZ_len s k; unfold scfZ; split <;> simp <;> omega
theorem scf_yes {s k : Nat} (h : inSc s k = true) : scfZ s (k + 1) = scfZ s k ++ [(k : Int)] := if_pos h
theorem scf_no {s k : Nat} (h : inSc s k = false) : scfZ s (k + 1) = scfZ s k := if_neg (by rw [h]; simp)
noncomputable def scfB (l : List (Int × Int)) : List Int := if tuneB l = true then scfZ (stU l l.length) 12 else []
theorem scfB_yes {l : List (Int × Int)} (h : tuneB l = true) : scfB l = scfZ (stU l l.length) 12 := if_pos h
theorem scfB_no {l : List (Int × Int)} (h : tuneB l = false) : scfB l = [] := if_neg (by rw [h]; simp)
theorem scfB_len (l : List (Int × Int)) : (scfB l).length ≤ 12 := by
  cases h : tuneB l
  · rw [scfB_no h]; simp
  · rw [scfB_yes h]; exact scfZ_len _ _
attribute [local irreducible] scfZ inSc majN stU tuneB in
set_option maxHeartbeats 800000 in
theorem impl_Scf (A : Option Addr) (c : Nat) (l : List (Int × Int)) (w : World) (hrd : RdN w A l) (hl : l.length ≤ 1000000000) :
    Calls Try.prog 47 #[.slice A l.length c] w (RetI 3 w.heap.size (scfB l) w) := by
  cases hB : tuneB l
  · have HV := Lib.hid (scfB_no hB)
    have HB := Lib.hid hB
    clear hB
    go_enter Try.func47, Try.ntmps47
    go_wp2_with fail
    refine (impl_TuneOk _ _ _ _ hrd (by omega)).mono ?_
    rintro e w1 ⟨rfl, hb1⟩
    rw [HB.out]
    go_wp2
    go_ret
    rw [HV.out]
    exact RetI.mk (OwnI.nil0 _ _ _) hb1
  · have HV := Lib.hid (scfB_yes hB)
    have HS := Lib.hid (stuB_yes hB)
    have HL := Lib.hid (stU_lt l l.length)
    have HB := Lib.hid hB
    clear hB
    obtain ⟨s, hs⟩ : ∃ s, s = stU l l.length := ⟨_, rfl⟩
    rw [← hs] at HV HS HL
    go_enter Try.func47, Try.ntmps47
    go_wp2_with fail
    refine (impl_TuneOk _ _ _ _ hrd (by omega)).mono ?_
    rintro e w1 ⟨rfl, hb1⟩
    rw [HB.out]
    have hr1 := hrd.below hb1 rfl
    have hs1 := hb1.size
    clear hrd hs
    go_wp2
    go_loopw [3, 4] (fun v i wr => ∃ k : Nat, k ≤ 12 ∧ i = .int .i64 k ∧ OwnI 3 w1.heap.size wr v (scfZ s k) ∧ Below w1.heap.size w1 wr) (fun _ i _ => 12 - (intOf i).toNat)
    case atStart => exact ⟨0, by omega, rfl, by rw [show scfZ s 0 = [] by unfold scfZ; rfl]; exact OwnI.lit0 _ _, (Below.refl _ _).alloc (Nat.le_refl _) _⟩
    case round =>
      obtain ⟨k, hk, rfl, hown, hb⟩ := hrel
      by_cases hlt : k < 12
      · have hlt2 : (k : Int) < 12 := by omega
        have hlen := scfZ_len s k
        have HM := Lib.hid (majN_eq (r := (k : Int)) ⟨by omega, by omega⟩)
        have HI := Lib.hid (inSc_a HL.out hlt)
        go_wp2_with fail
        refine (impl_StepsUsed _ _ _ _ (hr1.below hb rfl) (by omega)).mono ?_
        rintro e w2 ⟨rfl, hb2⟩
        rw [HS.out]
        have hb3 := hb.trans (hb2.mono hb.size)
        go_wp2_with fail
        refine (impl_Major _ _).mono ?_
        rintro e w3 ⟨rfl, hb4⟩
        rw [HM.out]
        have hb5 := hb3.trans (hb4.mono hb3.size)
        have hBs := hb5.size
        have ho3 := (hown.below hb2 rfl).below hb4 rfl
        cases hI : inSc s k
        · have HY := Lib.hid (scf_no hI)
          have hq := HI.out.trans hI
          clear hI
          go_wp2
          clear hq
          go_roundw
          case rel => exact ⟨k + 1, by omega, by go_num, by rw [HY.out]; exact ho3, hb5⟩
          case measure => simp [intOf]; omega
        · have HY := Lib.hid (scf_yes hI)
          have hq := HI.out.trans hI
          clear hI
          go_wp2_with (at_builtin; refine app_int rfl _ _ 31 rfl 3 Try.underlying31 (by kernel_rfl) w1.heap.size _ (scfZ s k) (k : Int) ho3 rfl rfl (by omega) hBs ?_; intro v' w4 hown1 hb6)
          clear hq
          go_roundw
          case rel => exact ⟨k + 1, by omega, by go_num, by rw [HY.out]; exact hown1, hb5.trans hb6⟩
          case measure => simp [intOf]; omega
      · obtain rfl : k = 12 := by omega
        go_wp2
        go_ret
        rw [HV.out]
        exact RetI.mk (hown.base_le hs1) (hb1.trans (hb.mono hs1))
attribute [local irreducible] scfZ inSc majN stU tuneB in
set_option maxHeartbeats 800000 in
theorem spec_Scf (A : Option Addr) (c : Nat) (l : List (Int × Int)) (w : World) (hrd : RdN w A l) (hl : l.length ≤ 1000000000) :
    Calls Try.prog 46 #[.slice A l.length c] w (RetI 3 w.heap.size (scfB l) w) := by
  have hrd1 := rdn_alloc2 hrd (Obj.cells #[] 3)
  have hb0 := (Below.refl w.heap.size w).alloc (Nat.le_refl _) (Obj.cells #[] 3)
  have ho0 := OwnI.lit0 w 3
  cases hB : tuneB l
  · have HV := Lib.hid (scfB_no hB)
    have HS := Lib.hid (stuB_no hB)
    clear hB
    go_enter Try.func46, Try.ntmps46
    go_wp2_with fail
    refine (spec_StepsUsed _ _ _ _ hrd1 (by omega)).mono ?_
    rintro e w1 ⟨rfl, hb1⟩
    rw [HS.out]
    have ho1 := ho0.below hb1 rfl
    have hb2 := hb0.trans (hb1.mono (by simp))
    clear hb0 hb1 hrd1
    go_wp2
    go_loop [3, 5] (fun v i => ∃ k : Nat, k ≤ 12 ∧ i = .int .i64 k ∧ v = .slice (some ⟨w.heap.size, 0, none⟩) 0 0) (fun _ i => 12 - (intOf i).toNat)
    case atStart => exact ⟨0, by omega, rfl, rfl⟩
    case round =>
      obtain ⟨k, hk, rfl, rfl⟩ := hrel
      by_cases hlt : k < 12
      · have hlt2 : (k : Int) < 12 := by omega
        go_wp2
        go_ret
        rw [HV.out]
        exact RetI.mk ho1 hb2
      · obtain rfl : k = 12 := by omega
        go_wp2
        go_ret
        rw [HV.out]
        exact RetI.mk ho1 hb2
  · have HV := Lib.hid (scfB_yes hB)
    have HS := Lib.hid (stuB_yes hB)
    have HL := Lib.hid (stU_lt l l.length)
    clear hB
    obtain ⟨s, hs⟩ : ∃ s, s = stU l l.length := ⟨_, rfl⟩
    rw [← hs] at HV HS HL
    have hsn : (0 : Int) ≤ (s : Int) := by omega
    go_enter Try.func46, Try.ntmps46
    go_wp2_with fail
    refine (spec_StepsUsed _ _ _ _ hrd1 (by omega)).mono ?_
    rintro e w1 ⟨rfl, hb1⟩
    rw [HS.out]
    have ho1 := ho0.below hb1 rfl
    have hb2 := hb0.trans (hb1.mono (by simp))
    clear hb0 hb1 hrd1 hs
    go_wp2
    go_loopw [3, 5] (fun v i wr => ∃ k : Nat, k ≤ 12 ∧ i = .int .i64 k ∧ OwnI 3 w.heap.size wr v (scfZ s k) ∧ Below w.heap.size w wr) (fun _ i _ => 12 - (intOf i).toNat)
    case atStart => exact ⟨0, by omega, rfl, by rw [show scfZ s 0 = [] by unfold scfZ; rfl]; exact ho1, hb2⟩
    case round =>
      obtain ⟨k, hk, rfl, hown, hb⟩ := hrel
      by_cases hlt : k < 12
      · have hlt2 : (k : Int) < 12 := by omega
        have hlen := scfZ_len s k
        have HM := Lib.hid (majN_eq (r := (k : Int)) ⟨by omega, by omega⟩)
        have HI := Lib.hid (inSc_o HL.out hlt)
        go_wp2_with fail
        refine (spec_Major _ _).mono ?_
        rintro e w3 ⟨rfl, hb4⟩
        rw [HM.out]
        have hb3 := hb.trans (hb4.mono hb.size)
        go_wp2_with fail
        refine (spec_Major _ _).mono ?_
        rintro e w4 ⟨rfl, hb5⟩
        rw [HM.out]
        have hb6 := hb3.trans (hb5.mono hb3.size)
        have hBs := hb6.size
        have ho3 := (hown.below hb4 rfl).below hb5 rfl
        cases hI : inSc s k
        · have HY := Lib.hid (scf_no hI)
          have hq := HI.out.trans hI
          clear hI
          go_wp2
          clear hq
          go_roundw
          case rel => exact ⟨k + 1, by omega, by go_num, by rw [HY.out]; exact ho3, hb6⟩
          case measure => simp [intOf]; omega
        · have HY := Lib.hid (scf_yes hI)
          have hq := HI.out.trans hI
          clear hI
          go_wp2_with (at_builtin; refine app_int rfl _ _ 31 rfl 3 Try.underlying31 (by kernel_rfl) w.heap.size _ (scfZ s k) (k : Int) ho3 rfl rfl (by omega) hBs ?_; intro v' w5 hown1 hb7)
          clear hq
          go_roundw
          case rel => exact ⟨k + 1, by omega, by go_num, by rw [HY.out]; exact hown1, hb6.trans hb7⟩
          case measure => simp [intOf]; omega
      · obtain rfl : k = 12 := by omega
        go_wp2
        go_ret
        rw [HV.out]
        exact RetI.mk hown hb
end Go.Proofs.Ytjfaodbjmanfnaa
