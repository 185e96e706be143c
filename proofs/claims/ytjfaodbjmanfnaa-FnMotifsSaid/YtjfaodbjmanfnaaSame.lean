/- Whether two tunes are the same but for where they begin: the program's and the reference's functions by contract. -/
import Derived.Test.YtjfaodbjmanfnaaBase
import Derived.Test.YtjfaodbjmanfnaaIn
import Derived.Test.YtjfaodbjmanfnaaTune
import Derived.Test.YtjfaodbjmanfnaaSounding
import Derived.Test.YtjfaodbjmanfnaaRows
import Derived.Deep.RegionHeld3
import Derived.WalkSpells
import Derived.Deep.QuietTactic
import Derived.BigQuiet
import Derived.Outline
namespace Go.Proofs.Ytjfaodbjmanfnaa
open Go.ChangeShapes Go.WideShapes Go.ChangeAt Go.RowKit
set_option linter.unusedVariables false
def smAt (a b : List (Int × Int)) (k : Nat) : Prop := tm a k - tm a 0 = tm b k - tm b 0 ∧ pt a k - pt a 0 = pt b k - pt b 0
def smAll (a b : List (Int × Int)) : Prop := ∀ k, k < a.length → smAt a b k
noncomputable instance (a b : List (Int × Int)) : Decidable (smAll a b) := Classical.propDecidable _
theorem sm_no {a b : List (Int × Int)} {k : Nat} (hk : k < a.length) (h : ¬ smAt a b k) : decide (smAll a b) = false := decide_eq_false fun hh => h (hh k hk)
theorem sm_zero (a b : List (Int × Int)) : smAt a b 0 := ⟨by omega, by omega⟩
theorem to_succ4 {p : Nat → Prop} {k : Nat} (h : ∀ i, i < k → p i) (hk : p k) : ∀ i, i < k + 1 → p i := by
  intro i hi
  by_cases e : i = k
  · subst e; exact hk
  · exact h i (by omega)
def samOk (a b : List (Int × Int)) : Prop := tuneB a = true ∧ tuneB b = true ∧ a.length = b.length
noncomputable instance (a b : List (Int × Int)) : Decidable (samOk a b) := Classical.propDecidable _
noncomputable def samB (a b : List (Int × Int)) : Bool := decide (samOk a b) && decide (smAll a b)
theorem samB_no {a b : List (Int × Int)} (h : ¬ samOk a b) : samB a b = false := by unfold samB; rw [decide_eq_false h]; rfl
theorem samB_at {a b : List (Int × Int)} (h : samOk a b) : samB a b = decide (smAll a b) := by unfold samB; rw [decide_eq_true h]; rfl
attribute [local irreducible] tm pt tuneB in
set_option maxHeartbeats 1600000 in
theorem impl_Same_ok (A B : Option Addr) (c d : Nat) (a b : List (Int × Int)) (w : World) (hra : RdN w A a) (hrb : RdN w B b) (hla : a.length ≤ 100000) (hA : tuneB a = true) (hB : tuneB b = true) (hlen : a.length = b.length) :
    Calls Try.prog 72 #[.slice A a.length c, .slice B b.length d] w fun e w' => e = .returned (.bool (decide (smAll a b))) ∧ Below w.heap.size w w' := by
  have HT := Lib.hid (fun j (hj : j < a.length) => And.intro (tm_rng hA hj) (pt_rng hA hj))
  have HU := Lib.hid (fun j (hj : j < b.length) => And.intro (tm_rng hB hj) (pt_rng hB hj))
  have HA := Lib.hid hA
  have HB := Lib.hid hB
  have hq : ((a.length : Int) != (b.length : Int)) = false := by simp; omega
  have hl1 : a.length ≤ b.length := by omega
  have hl2 : b.length ≤ a.length := by omega
  clear hA hB hlen
  go_enter Try.func72, Try.ntmps72
  go_wp2_with fail
  refine (impl_TuneOk _ _ _ _ hra (by omega)).mono ?_
  rintro e w1 ⟨rfl, hb1⟩
  rw [HA.out]
  go_wp2_with fail
  refine (impl_TuneOk _ _ _ _ (hrb.below hb1 rfl) (by omega)).mono ?_
  rintro e w2 ⟨rfl, hb2⟩
  rw [HB.out]
  have hb02 := hb1.trans (hb2.mono hb1.size)
  have ra := hra.below hb02 rfl
  have rb := hrb.below hb02 rfl
  clear hra hrb hb1 hb2
  go_wp2
  go_loopw [24] (fun q wr => ∃ k : Nat, k ≤ a.length ∧ q = .int .i64 k ∧ (∀ j, j < k → smAt a b j) ∧ Below w2.heap.size w2 wr) (fun q _ => a.length - (intOf q).toNat)
  case atStart => exact ⟨0, by omega, rfl, fun j h => by omega, Below.refl _ _⟩
  case round =>
    obtain ⟨k, hk, rfl, hM, hb⟩ := hrel
    have HM := Lib.hid hM
    clear hM
    by_cases hlt : k < a.length
    · have hlb : k < b.length := by omega
      obtain ⟨b1, o1, rfl, l1, c1⟩ := ra (by omega)
      obtain ⟨b2, o2, rfl, l2, c2⟩ := rb (by omega)
      have k1 := (hb.cell (p := ⟨b1, o1 + k * 2, none⟩) l1).trans (c1 k hlt).1
      have k2 := (hb.cell (p := ⟨b1, o1 + k * 2 + 1, none⟩) l1).trans (c1 k hlt).2
      have k3 := (hb.cell (p := ⟨b1, o1, none⟩) l1).trans (by simpa using (c1 0 (by omega)).1)
      have k4 := (hb.cell (p := ⟨b1, o1 + 1, none⟩) l1).trans (by simpa using (c1 0 (by omega)).2)
      have k5 := (hb.cell (p := ⟨b2, o2 + k * 2, none⟩) l2).trans (c2 k hlb).1
      have k6 := (hb.cell (p := ⟨b2, o2 + k * 2 + 1, none⟩) l2).trans (c2 k hlb).2
      have k7 := (hb.cell (p := ⟨b2, o2, none⟩) l2).trans (by simpa using (c2 0 (by omega)).1)
      have k8 := (hb.cell (p := ⟨b2, o2 + 1, none⟩) l2).trans (by simpa using (c2 0 (by omega)).2)
      have g1 := HT.out k hlt
      have g2 := HT.out 0 (by omega)
      have g3 := HU.out k hlb
      have g4 := HU.out 0 (by omega)
      have h0a : (0 : Int) ≤ (k : Int) := by omega
      have h0b : (k : Int) < (a.length : Int) := by omega
      have h0c : (k : Int) < (b.length : Int) := by omega
      have h0d : (0 : Int) < (a.length : Int) := by omega
      have h0e : (0 : Int) < (b.length : Int) := by omega
      have W1 := Lib.hid (show IntKind.i64.wrap (tm b k - tm a k) = tm b k - tm a k from IntWalk.i64_in _ (by omega))
      have W2 := Lib.hid (show IntKind.i64.wrap (pt b k - pt a k) = pt b k - pt a k from IntWalk.i64_in _ (by omega))
      have W3 := Lib.hid (show IntKind.i64.wrap (tm b 0 - tm a 0) = tm b 0 - tm a 0 from IntWalk.i64_in _ (by omega))
      have W4 := Lib.hid (show IntKind.i64.wrap (pt b 0 - pt a 0) = pt b 0 - pt a 0 from IntWalk.i64_in _ (by omega))
      obtain ⟨V, hV⟩ : ∃ V, V = wr.alloc (Obj.cells #[.int .i64 (tm a k), .int .i64 (pt a k)] 39) := ⟨_, rfl⟩
      have hBV : Below wr.heap.size wr V := by rw [hV]; exact (Below.refl _ _).alloc (Nat.le_refl _) _
      have n1 : V.cell? ⟨wr.heap.size, 0, none⟩ = some (.int .i64 (tm a k)) := by rw [hV]; simp [go_sem]
      have n2 : V.cell? ⟨wr.heap.size, 1, none⟩ = some (.int .i64 (pt a k)) := by rw [hV]; simp [go_sem]
      have m3 := (hBV.cell (p := ⟨b1, o1, none⟩) (Nat.lt_of_lt_of_le l1 hb.size)).trans k3
      have m4 := (hBV.cell (p := ⟨b1, o1 + 1, none⟩) (Nat.lt_of_lt_of_le l1 hb.size)).trans k4
      have m5 := (hBV.cell (p := ⟨b2, o2 + k * 2, none⟩) (Nat.lt_of_lt_of_le l2 hb.size)).trans k5
      have m6 := (hBV.cell (p := ⟨b2, o2 + k * 2 + 1, none⟩) (Nat.lt_of_lt_of_le l2 hb.size)).trans k6
      have m7 := (hBV.cell (p := ⟨b2, o2, none⟩) (Nat.lt_of_lt_of_le l2 hb.size)).trans k7
      have m8 := (hBV.cell (p := ⟨b2, o2 + 1, none⟩) (Nat.lt_of_lt_of_le l2 hb.size)).trans k8
      have hb3 := hb.trans (hBV.mono hb.size)
      have HV := Lib.hid hV
      clear hV hBV k3 k4 k5 k6 k7 k8
      clear c1 c2 g1 g2 g3 g4
      by_cases h1 : tm a k - tm a 0 = tm b k - tm b 0
      · have q1 : ((tm b k - tm a k) != (tm b 0 - tm a 0)) = false := by simp; omega
        by_cases h2 : pt a k - pt a 0 = pt b k - pt b 0
        · have q2 : ((pt b k - pt a k) != (pt b 0 - pt a 0)) = false := by simp; omega
          have HG := Lib.hid (show smAt a b k from ⟨h1, h2⟩)
          clear h1 h2
          go_wp2_with fail
          rw [← HV.out]
          have v1 := W1.out
          have v2 := W2.out
          have v3 := W3.out
          have v4 := W4.out
          go_quiet (fail)
          clear v1 v2 v3 v4
          go_wp2
          go_roundw
          case rel => exact ⟨k + 1, by omega, by go_num, to_succ4 HM.out HG.out, bel_drewN hb3 _⟩
          case measure => simp [intOf]; omega
        · have q2 : ((pt b k - pt a k) != (pt b 0 - pt a 0)) = true := by simp; omega
          have HF := Lib.hid (sm_no (a := a) (b := b) hlt (fun h => h2 h.2))
          clear h1 h2
          go_wp2_with fail
          rw [← HV.out]
          have v1 := W1.out
          have v2 := W2.out
          have v3 := W3.out
          have v4 := W4.out
          go_quiet (fail)
          clear v1 v2 v3 v4
          go_wp2
          go_ret
          exact ⟨ret_bool HF.out.symm, hb02.trans ((bel_drewN hb3 _).mono hb02.size)⟩
      · have q1 : ((tm b k - tm a k) != (tm b 0 - tm a 0)) = true := by simp; omega
        have HF := Lib.hid (sm_no (a := a) (b := b) hlt (fun h => h1 h.1))
        clear h1
        go_wp2_with fail
        rw [← HV.out]
        have v1 := W1.out
        have v3 := W3.out
        go_quiet (fail)
        clear v1 v3
        go_wp2
        go_ret
        exact ⟨ret_bool HF.out.symm, hb02.trans ((bel_drewN hb3 _).mono hb02.size)⟩
    · have HF := Lib.hid (show decide (smAll a b) = true from decide_eq_true (fun j hj => HM.out j (by omega)))
      go_wp2
      go_ret
      exact ⟨ret_bool HF.out.symm, hb02.trans (hb.mono hb02.size)⟩
attribute [local irreducible] tm pt tuneB in
set_option maxHeartbeats 1600000 in
theorem spec_Same_ok (A B : Option Addr) (c d : Nat) (a b : List (Int × Int)) (w : World) (hra : RdN w A a) (hrb : RdN w B b) (hla : a.length ≤ 100000) (hA : tuneB a = true) (hB : tuneB b = true) (hlen : a.length = b.length) :
    Calls Try.prog 80 #[.slice A a.length c, .slice B b.length d] w fun e w' => e = .returned (.bool (decide (smAll a b))) ∧ Below w.heap.size w w' := by
  have HT := Lib.hid (fun j (hj : j < a.length) => And.intro (tm_rng hA hj) (pt_rng hA hj))
  have HU := Lib.hid (fun j (hj : j < b.length) => And.intro (tm_rng hB hj) (pt_rng hB hj))
  have HA := Lib.hid hA
  have HB := Lib.hid hB
  have hq : ((a.length : Int) != (b.length : Int)) = false := by simp; omega
  have hl1 : a.length ≤ b.length := by omega
  have hl2 : b.length ≤ a.length := by omega
  clear hA hB hlen
  go_enter Try.func80, Try.ntmps80
  go_wp2_with fail
  refine (spec_TuneOk _ _ _ _ hra (by omega)).mono ?_
  rintro e w1 ⟨rfl, hb1⟩
  rw [HA.out]
  go_wp2_with fail
  refine (spec_TuneOk _ _ _ _ (hrb.below hb1 rfl) (by omega)).mono ?_
  rintro e w2 ⟨rfl, hb2⟩
  rw [HB.out]
  have hb02 := hb1.trans (hb2.mono hb1.size)
  have ra := hra.below hb02 rfl
  have rb := hrb.below hb02 rfl
  clear hra hrb hb1 hb2
  go_wp2
  go_loopw [5] (fun q wr => ∃ k : Nat, 1 ≤ k ∧ q = .int .i64 k ∧ (∀ j, j < k → smAt a b j) ∧ Below w2.heap.size w2 wr) (fun q _ => a.length - (intOf q).toNat)
  case atStart => exact ⟨1, by omega, rfl, fun j h => (show j = 0 by omega) ▸ sm_zero a b, Below.refl _ _⟩
  case round =>
    obtain ⟨k, hk, rfl, hM, hb⟩ := hrel
    have HM := Lib.hid hM
    clear hM
    by_cases hlt : k < a.length
    · have hlb : k < b.length := by omega
      obtain ⟨b1, o1, rfl, l1, c1⟩ := ra (by omega)
      obtain ⟨b2, o2, rfl, l2, c2⟩ := rb (by omega)
      have k1 := (hb.cell (p := ⟨b1, o1 + k * 2, none⟩) l1).trans (c1 k hlt).1
      have k2 := (hb.cell (p := ⟨b1, o1 + k * 2 + 1, none⟩) l1).trans (c1 k hlt).2
      have k3 := (hb.cell (p := ⟨b1, o1, none⟩) l1).trans (by simpa using (c1 0 (by omega)).1)
      have k4 := (hb.cell (p := ⟨b1, o1 + 1, none⟩) l1).trans (by simpa using (c1 0 (by omega)).2)
      have k5 := (hb.cell (p := ⟨b2, o2 + k * 2, none⟩) l2).trans (c2 k hlb).1
      have k6 := (hb.cell (p := ⟨b2, o2 + k * 2 + 1, none⟩) l2).trans (c2 k hlb).2
      have k7 := (hb.cell (p := ⟨b2, o2, none⟩) l2).trans (by simpa using (c2 0 (by omega)).1)
      have k8 := (hb.cell (p := ⟨b2, o2 + 1, none⟩) l2).trans (by simpa using (c2 0 (by omega)).2)
      have g1 := HT.out k hlt
      have g2 := HT.out 0 (by omega)
      have g3 := HU.out k hlb
      have g4 := HU.out 0 (by omega)
      have h0a : (0 : Int) ≤ (k : Int) := by omega
      have h0b : (k : Int) < (a.length : Int) := by omega
      have h0c : (k : Int) < (b.length : Int) := by omega
      have h0d : (0 : Int) < (a.length : Int) := by omega
      have h0e : (0 : Int) < (b.length : Int) := by omega
      have W1 := Lib.hid (show IntKind.i64.wrap (tm a k - tm a 0) = tm a k - tm a 0 from IntWalk.i64_in _ (by omega))
      have W2 := Lib.hid (show IntKind.i64.wrap (pt a k - pt a 0) = pt a k - pt a 0 from IntWalk.i64_in _ (by omega))
      have W3 := Lib.hid (show IntKind.i64.wrap (tm b k - tm b 0) = tm b k - tm b 0 from IntWalk.i64_in _ (by omega))
      have W4 := Lib.hid (show IntKind.i64.wrap (pt b k - pt b 0) = pt b k - pt b 0 from IntWalk.i64_in _ (by omega))
      clear c1 c2 g1 g2 g3 g4
      by_cases h1 : tm a k - tm a 0 = tm b k - tm b 0
      · have q1 : ((tm a k - tm a 0) != (tm b k - tm b 0)) = false := by simp; omega
        by_cases h2 : pt a k - pt a 0 = pt b k - pt b 0
        · have q2 : ((pt a k - pt a 0) != (pt b k - pt b 0)) = false := by simp; omega
          have HG := Lib.hid (show smAt a b k from ⟨h1, h2⟩)
          clear h1 h2
          go_wp2_with fail
          have v1 := W1.out
          have v2 := W2.out
          have v3 := W3.out
          have v4 := W4.out
          go_quiet (fail)
          clear v1 v2 v3 v4
          go_wp2
          go_roundw
          case rel => exact ⟨k + 1, by omega, by go_num, to_succ4 HM.out HG.out, bel_drewN hb _⟩
          case measure => simp [intOf]; omega
        · have q2 : ((pt a k - pt a 0) != (pt b k - pt b 0)) = true := by simp; omega
          have HF := Lib.hid (sm_no (a := a) (b := b) hlt (fun h => h2 h.2))
          clear h1 h2
          go_wp2_with fail
          have v1 := W1.out
          have v2 := W2.out
          have v3 := W3.out
          have v4 := W4.out
          go_quiet (fail)
          clear v1 v2 v3 v4
          go_wp2
          go_ret
          exact ⟨ret_bool HF.out.symm, hb02.trans ((bel_drewN hb _).mono hb02.size)⟩
      · have q1 : ((tm a k - tm a 0) != (tm b k - tm b 0)) = true := by simp; omega
        have HF := Lib.hid (sm_no (a := a) (b := b) hlt (fun h => h1 h.1))
        clear h1
        go_wp2_with fail
        have v1 := W1.out
        have v3 := W3.out
        go_quiet (fail)
        clear v1 v3
        go_wp2
        go_ret
        exact ⟨ret_bool HF.out.symm, hb02.trans ((bel_drewN hb _).mono hb02.size)⟩
    · have HF := Lib.hid (show decide (smAll a b) = true from decide_eq_true (fun j hj => HM.out j (by omega)))
      go_wp2
      go_ret
      exact ⟨ret_bool HF.out.symm, hb02.trans (hb.mono hb02.size)⟩
set_option maxHeartbeats 800000 in
theorem impl_Same (A B : Option Addr) (c d : Nat) (a b : List (Int × Int)) (w : World) (hra : RdN w A a) (hrb : RdN w B b) (hla : a.length ≤ 1000000000) (hlb : b.length ≤ 1000000000) :
    Calls Try.prog 72 #[.slice A a.length c, .slice B b.length d] w fun e w' => e = .returned (.bool (samB a b)) ∧ Below w.heap.size w w' := by
  by_cases hok : samOk a b
  · rw [samB_at hok]
    have h1 := (of_decide_eq_true hok.1 : tuneP a).2
    exact impl_Same_ok A B c d a b w hra hrb (by omega) hok.1 hok.2.1 hok.2.2
  · have HV := Lib.hid (samB_no hok)
    cases hA : tuneB a
    · have HA := Lib.hid hA
      clear hA hok
      go_enter Try.func72, Try.ntmps72
      go_wp2_with fail
      refine (impl_TuneOk _ _ _ _ hra (by omega)).mono ?_
      rintro e w1 ⟨rfl, hb1⟩
      rw [HA.out]
      go_wp2
      go_ret
      exact ⟨ret_bool HV.out.symm, hb1⟩
    · cases hB : tuneB b
      · have HA := Lib.hid hA
        have HB := Lib.hid hB
        clear hA hB hok
        go_enter Try.func72, Try.ntmps72
        go_wp2_with fail
        refine (impl_TuneOk _ _ _ _ hra (by omega)).mono ?_
        rintro e w1 ⟨rfl, hb1⟩
        rw [HA.out]
        go_wp2_with fail
        refine (impl_TuneOk _ _ _ _ (hrb.below hb1 rfl) (by omega)).mono ?_
        rintro e w2 ⟨rfl, hb2⟩
        rw [HB.out]
        go_wp2
        go_ret
        exact ⟨ret_bool HV.out.symm, hb1.trans (hb2.mono hb1.size)⟩
      · have hne : ¬ a.length = b.length := fun h => hok ⟨hA, hB, h⟩
        have hq : ((a.length : Int) != (b.length : Int)) = true := by simp; omega
        have HA := Lib.hid hA
        have HB := Lib.hid hB
        clear hA hB hok hne
        go_enter Try.func72, Try.ntmps72
        go_wp2_with fail
        refine (impl_TuneOk _ _ _ _ hra (by omega)).mono ?_
        rintro e w1 ⟨rfl, hb1⟩
        rw [HA.out]
        go_wp2_with fail
        refine (impl_TuneOk _ _ _ _ (hrb.below hb1 rfl) (by omega)).mono ?_
        rintro e w2 ⟨rfl, hb2⟩
        rw [HB.out]
        go_wp2
        go_ret
        exact ⟨ret_bool HV.out.symm, hb1.trans (hb2.mono hb1.size)⟩
set_option maxHeartbeats 800000 in
theorem spec_Same (A B : Option Addr) (c d : Nat) (a b : List (Int × Int)) (w : World) (hra : RdN w A a) (hrb : RdN w B b) (hla : a.length ≤ 1000000000) (hlb : b.length ≤ 1000000000) :
    Calls Try.prog 80 #[.slice A a.length c, .slice B b.length d] w fun e w' => e = .returned (.bool (samB a b)) ∧ Below w.heap.size w w' := by
  by_cases hok : samOk a b
  · rw [samB_at hok]
    have h1 := (of_decide_eq_true hok.1 : tuneP a).2
    exact spec_Same_ok A B c d a b w hra hrb (by omega) hok.1 hok.2.1 hok.2.2
  · have HV := Lib.hid (samB_no hok)
    cases hA : tuneB a
    · have HA := Lib.hid hA
      clear hA hok
      go_enter Try.func80, Try.ntmps80
      go_wp2_with fail
      refine (spec_TuneOk _ _ _ _ hra (by omega)).mono ?_
      rintro e w1 ⟨rfl, hb1⟩
      rw [HA.out]
      go_wp2
      go_ret
      exact ⟨ret_bool HV.out.symm, hb1⟩
    · cases hB : tuneB b
      · have HA := Lib.hid hA
        have HB := Lib.hid hB
        clear hA hB hok
        go_enter Try.func80, Try.ntmps80
        go_wp2_with fail
        refine (spec_TuneOk _ _ _ _ hra (by omega)).mono ?_
        rintro e w1 ⟨rfl, hb1⟩
        rw [HA.out]
        go_wp2_with fail
        refine (spec_TuneOk _ _ _ _ (hrb.below hb1 rfl) (by omega)).mono ?_
        rintro e w2 ⟨rfl, hb2⟩
        rw [HB.out]
        go_wp2
        go_ret
        exact ⟨ret_bool HV.out.symm, hb1.trans (hb2.mono hb1.size)⟩
      · have hne : ¬ a.length = b.length := fun h => hok ⟨hA, hB, h⟩
        have hq : ((a.length : Int) != (b.length : Int)) = true := by simp; omega
        have HA := Lib.hid hA
        have HB := Lib.hid hB
        clear hA hB hok hne
        go_enter Try.func80, Try.ntmps80
        go_wp2_with fail
        refine (spec_TuneOk _ _ _ _ hra (by omega)).mono ?_
        rintro e w1 ⟨rfl, hb1⟩
        rw [HA.out]
        go_wp2_with fail
        refine (spec_TuneOk _ _ _ _ (hrb.below hb1 rfl) (by omega)).mono ?_
        rintro e w2 ⟨rfl, hb2⟩
        rw [HB.out]
        go_wp2
        go_ret
        exact ⟨ret_bool HV.out.symm, hb1.trans (hb2.mono hb1.size)⟩
end Go.Proofs.Ytjfaodbjmanfnaa
