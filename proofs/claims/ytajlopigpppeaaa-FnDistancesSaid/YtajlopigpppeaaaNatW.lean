/- NotesAt, timesOf, sameInts: the program and the reference. -/
import Derived.Test.YtajlopigpppeaaaDif
import Derived.Deep.Cut
namespace Go.Proofs.Ytajlopigpppeaaa
open Go.ChangeShapes Go.WideShapes Go.ChangeAt Go.RowKit
set_option linter.unusedVariables false
attribute [local irreducible] tm pt tuneB natTo natB in
set_option maxHeartbeats 1600000 in
theorem spec_Nat (A : Option Addr) (c : Nat) (l : List (Int × Int)) (t : Int) (w : World) (hrd : RdN w A l) (hl : l.length ≤ 1000000000) :
    Calls Try.prog 35 #[.slice A l.length c, .int .i64 t] w (RetI 3 w.heap.size (natB l t) w) := by
  cases hB : tuneB l
  · have HV := Lib.hid (natB_no (t := t) hB)
    have HB := Lib.hid hB
    clear hB
    go_enter Try.func35, Try.ntmps35
    go_wp2
    go_loopw [5, 6] (fun v i wr => v = .slice (some ⟨w.heap.size, 0, none⟩) 0 0 ∧ i = .int .i64 0 ∧ OwnI 3 w.heap.size wr (.slice (some ⟨w.heap.size, 0, none⟩) 0 0) [] ∧ Below w.heap.size w wr) (fun _ i _ => 0)
    case atStart => exact ⟨rfl, rfl, OwnI.lit0 _ _, (Below.refl _ _).alloc (Nat.le_refl _) _⟩
    case round =>
      obtain ⟨rfl, rfl, ho, hb⟩ := hrel
      by_cases hlt : 0 < l.length
      · go_wp2_with fail
        refine (spec_TuneOk _ _ _ _ (hrd.below hb rfl) (by omega)).mono ?_
        rintro e wz ⟨rfl, hbz⟩
        rw [HB.out]
        have ho2 := ho.below hbz rfl
        have hb2 := hb.trans (hbz.mono hb.size)
        go_wp2
        go_ret
        rw [HV.out]
        exact RetI.mk ho2 hb2
      · go_wp2
        go_ret
        rw [HV.out]
        exact RetI.mk ho hb
  · have HV := Lib.hid (natB_yes (t := t) hB)
    have HB := Lib.hid hB
    have HZ0 := Lib.hid (show natTo l t 0 = [] by unfold natTo; rfl)
    have HL := Lib.hid (natTo_len l t)
    clear hB
    go_enter Try.func35, Try.ntmps35
    go_wp2
    go_loopw [5, 6] (fun v i wr => ∃ k : Nat, k ≤ l.length ∧ i = .int .i64 k ∧ OwnI 3 w.heap.size wr v (natTo l t k) ∧ Below w.heap.size w wr) (fun _ i _ => l.length - (intOf i).toNat)
    case atStart => exact ⟨0, by omega, rfl, by rw [HZ0.out]; exact OwnI.lit0 _ _, (Below.refl _ _).alloc (Nat.le_refl _) _⟩
    case round =>
      obtain ⟨k, hk, rfl, ho, hb⟩ := hrel
      by_cases hlt : k < l.length
      · go_wp2_with fail
        refine (spec_TuneOk _ _ _ _ (hrd.below hb rfl) (by omega)).mono ?_
        rintro e wz ⟨rfl, hbz⟩
        rw [HB.out]
        have hown := ho.below hbz rfl
        have hbW := hb.trans (hbz.mono hb.size)
        clear ho hb hbz
        have hlen := HL.out k
        obtain ⟨b, o, rfl, lb, hcl⟩ := hrd (by omega)
        have k1 := (hbW.cell (p := ⟨b, o + k * 2, none⟩) lb).trans (hcl k hlt).1
        have k2 := (hbW.cell (p := ⟨b, o + k * 2 + 1, none⟩) lb).trans (hcl k hlt).2
        have hBs : w.heap.size ≤ wz.heap.size := hbW.size
        have h0i : (0 : Int) ≤ (k : Int) := by omega
        have h0j : (k : Int) < (l.length : Int) := by omega
        clear hcl
        by_cases ht : tm l k = t
        · have HY := Lib.hid (nat_yes ht)
          have hq : (tm l k == t) = true := by simpa using ht
          clear ht
          go_wp2_with (at_builtin; refine app_int rfl _ _ 24 rfl 3 Try.underlying24 (by kernel_rfl) w.heap.size _ (natTo l t k) (pt l k) hown rfl rfl (by omega) hBs ?_; intro v' w2 hown1 hb2)
          go_roundw
          case rel => exact ⟨k + 1, by omega, by go_num, by rw [HY.out]; exact hown1, hbW.trans hb2⟩
          case measure => simp [intOf]; omega
        · have HY := Lib.hid (nat_no ht)
          have hq : (tm l k == t) = false := by simpa using ht
          clear ht
          go_wp2
          go_roundw
          case rel => exact ⟨k + 1, by omega, by go_num, by rw [HY.out]; exact hown, hbW⟩
          case measure => simp [intOf]; omega
      · obtain rfl : k = l.length := by omega
        go_wp2
        go_ret
        rw [HV.out]
        exact RetI.mk ho hb
attribute [local irreducible] tm pt tuneB natTo natB in
set_option maxHeartbeats 1600000 in
theorem impl_Nat (A : Option Addr) (c : Nat) (l : List (Int × Int)) (t : Int) (w : World) (hrd : RdN w A l) (hl : l.length ≤ 1000000000) :
    Calls Try.prog 56 #[.slice A l.length c, .int .i64 t] w (RetI 3 w.heap.size (natB l t) w) := by
  cases hB : tuneB l
  · have HV := Lib.hid (natB_no (t := t) hB)
    have HB := Lib.hid hB
    clear hB
    go_enter Try.func56, Try.ntmps56
    go_wp2_with fail
    refine (impl_TuneOk _ _ _ _ hrd (by omega)).mono ?_
    rintro e wz ⟨rfl, hbz⟩
    rw [HB.out]
    go_wp2
    go_ret
    rw [HV.out]
    exact RetI.mk (OwnI.nil0 wz _ _) hbz
  · have HV := Lib.hid (natB_yes (t := t) hB)
    have HB := Lib.hid hB
    have HZ0 := Lib.hid (show natTo l t 0 = [] by unfold natTo; rfl)
    have HL := Lib.hid (natTo_len l t)
    clear hB
    go_enter Try.func56, Try.ntmps56
    go_wp2_with fail
    refine (impl_TuneOk _ _ _ _ hrd (by omega)).mono ?_
    rintro e w1 ⟨rfl, hb1⟩
    rw [HB.out]
    go_wp2
    go_loopw [5, 14] (fun v i wr => ∃ k : Nat, k ≤ l.length ∧ i = .int .i64 k ∧ OwnI 3 w.heap.size wr v (natTo l t k) ∧ Below w.heap.size w wr) (fun _ i _ => l.length - (intOf i).toNat)
    case atStart => exact ⟨0, by omega, rfl, by rw [HZ0.out]; exact (OwnI.lit0 _ _).base_le hb1.size, hb1.alloc hb1.size _⟩
    case round =>
      obtain ⟨k, hk, rfl, hown, hb⟩ := hrel
      by_cases hlt : k < l.length
      · have hlen := HL.out k
        obtain ⟨b, o, rfl, lb, hcl⟩ := hrd (by omega)
        have k1 := (hb.cell (p := ⟨b, o + k * 2, none⟩) lb).trans (hcl k hlt).1
        have k3 := (hb.cell (p := ⟨b, o + k * 2 + 1, none⟩) lb).trans (hcl k hlt).2
        have hBs : w.heap.size ≤ wr.heap.size := hb.size
        obtain ⟨W, hW⟩ : ∃ W, W = wr.alloc (Obj.cells #[.int .i64 (tm l k), .int .i64 (pt l k)] 42) := ⟨_, rfl⟩
        have hBW : Below wr.heap.size wr W := by rw [hW]; exact (Below.refl _ _).alloc (Nat.le_refl _) _
        have n1 : W.cell? ⟨wr.heap.size, 0, none⟩ = some (.int .i64 (tm l k)) := by rw [hW]; simp [go_sem]
        have n2 : W.cell? ⟨wr.heap.size, 1, none⟩ = some (.int .i64 (pt l k)) := by rw [hW]; simp [go_sem]
        have ho2 := hown.below hBW rfl
        have hbW := hb.trans (hBW.mono hBs)
        have hBs2 : w.heap.size ≤ W.heap.size := hbW.size
        have HW := Lib.hid hW
        clear hW hBW hcl
        by_cases ht : tm l k = t
        · have HY := Lib.hid (nat_yes ht)
          have hq : (tm l k == t) = true := by simpa using ht
          clear ht
          go_upto_region 7 with (fail)
          rw [← HW.out]
          go_wp2_with (at_builtin; refine app_int rfl _ _ 24 rfl 3 Try.underlying24 (by kernel_rfl) w.heap.size _ (natTo l t k) (pt l k) ho2 rfl rfl (by omega) hBs2 ?_; intro v' w2 hown1 hb2)
          go_roundw
          case rel => exact ⟨k + 1, by omega, by go_num, by rw [HY.out]; exact hown1, hbW.trans hb2⟩
          case measure => simp [intOf]; omega
        · have HY := Lib.hid (nat_no ht)
          have hq : (tm l k == t) = false := by simpa using ht
          clear ht
          go_upto_region 7 with (fail)
          rw [← HW.out]
          go_wp2
          go_roundw
          case rel => exact ⟨k + 1, by omega, by go_num, by rw [HY.out]; exact ho2, hbW⟩
          case measure => simp [intOf]; omega
      · obtain rfl : k = l.length := by omega
        go_wp2
        go_ret
        rw [HV.out]
        exact RetI.mk hown hb
/-- Whether two lists are the same. -/
noncomputable def smI (a b : List Int) : Bool := decide (a = b)
theorem sm_len {a b : List Int} (h : a.length ≠ b.length) : smI a b = false := decide_eq_false fun e => h (by rw [e])
theorem sm_at {a b : List Int} {k : Nat} (h : gt a k ≠ gt b k) : smI a b = false := decide_eq_false fun e => h (by rw [e])
theorem sm_all {a b : List Int} (hl : a.length = b.length) (h : ∀ i, i < a.length → gt a i = gt b i) : smI a b = true := decide_eq_true (ext_gt hl fun i hi => h i (by omega))
theorem sm_step {a b : List Int} {k : Nat} (h : ∀ i, i < k → gt a i = gt b i) (hk : gt a k = gt b k) : ∀ i, i < k + 1 → gt a i = gt b i := by
  intro i hi
  by_cases e : i = k
  · subst e; exact hk
  · exact h i (by omega)
attribute [local irreducible] gt in
set_option maxHeartbeats 800000 in
theorem sameInts_any (A B : Option Addr) (c d : Nat) (a b : List Int) (w : World) (hra : RdI w A a) (hrb : RdI w B b) (hla : a.length ≤ 1000000000) (hlb : b.length ≤ 1000000000) :
    Calls Try.prog 55 #[.slice A a.length c, .slice B b.length d] w fun e w' => e = .returned (.bool (smI a b)) ∧ w = w' := by
  by_cases hl : a.length = b.length
  · have HL := Lib.hid hl
    have hq : ((a.length : Int) == (b.length : Int)) = true := by simp; omega
    have hq2 : ((a.length : Int) != (b.length : Int)) = false := by simp; omega
    have hq3 : decide ((a.length : Int) = (b.length : Int)) = true := by simp; omega
    have hq4 : decide (a.length = b.length) = true := by simpa using hl
    clear hl
    go_enter Try.func55, Try.ntmps55
    go_wp2
    go_loop [14] (fun i => ∃ k : Nat, k ≤ a.length ∧ i = .int .i64 k ∧ ∀ i, i < k → gt a i = gt b i) (fun i => a.length - (intOf i).toNat)
    case atStart => exact ⟨0, by omega, rfl, fun _ h => by omega⟩
    case round =>
      obtain ⟨k, hk, rfl, hM⟩ := hrel
      have HM := Lib.hid hM
      clear hM
      by_cases hlt : k < a.length
      · have hltb : k < b.length := by have := HL.out; omega
        obtain ⟨b1, o1, rfl, _, hc1⟩ := hra (by omega)
        obtain ⟨b2, o2, rfl, _, hc2⟩ := hrb (by omega)
        have k1 := hc1 k hlt
        have k2 := hc2 k hltb
        clear hc1 hc2 hra hrb
        by_cases he : gt a k = gt b k
        · have HE := Lib.hid (sm_step HM.out he)
          have hq : (gt a k != gt b k) = false := by simpa using he
          have hq' : (gt a k == gt b k) = true := by simpa using he
          clear he
          go_wp2
          go_round
          case rel => exact ⟨k + 1, by omega, by go_num, HE.out⟩
          case measure => simp [intOf]; omega
        · have HE := Lib.hid (sm_at he)
          have hq : (gt a k != gt b k) = true := by simpa using he
          have hq' : (gt a k == gt b k) = false := by simpa using he
          clear he
          go_wp2
          go_ret
          exact ⟨ret_bool HE.out.symm, rfl⟩
      · obtain rfl : k = a.length := by omega
        go_wp2
        go_ret
        exact ⟨ret_bool (sm_all HL.out HM.out).symm, rfl⟩
  · have HE := Lib.hid (sm_len hl)
    have hq : ((a.length : Int) == (b.length : Int)) = false := by simp; omega
    have hq2 : ((a.length : Int) != (b.length : Int)) = true := by simp; omega
    have hq3 : decide ((a.length : Int) = (b.length : Int)) = false := by simp; omega
    have hq4 : decide (a.length = b.length) = false := by simpa using hl
    clear hl
    go_enter Try.func55, Try.ntmps55
    go_wp2
    go_ret
    exact ⟨ret_bool HE.out.symm, rfl⟩
set_option maxHeartbeats 800000 in
theorem holdsM_any (A : Option Addr) (c : Nat) (l : List Int) (n : Int) (w : World) (hrd : RdI w A l) (hl : l.length ≤ 1000000000) :
    Calls Try.prog 84 #[.slice A l.length c, .int .i64 n] w fun e w' => e = .returned (.bool (meB l n)) ∧ w = w' := by
  go_enter Try.func84, Try.ntmps84
  go_wp2
  go_loop [9] (fun q => ∃ k : Nat, k ≤ l.length ∧ q = .int .i64 k ∧ ∀ i, i < k → gt l i ≠ n) (fun q => l.length - (intOf q).toNat)
  case atStart => exact ⟨0, by omega, rfl, fun _ h => by omega⟩
  case round =>
    obtain ⟨k, hk, rfl, hM⟩ := hrel
    have HM := Lib.hid hM
    clear hM
    by_cases hlt : k < l.length
    · obtain ⟨b1, o1, rfl, _, hc1⟩ := hrd (by omega)
      have h1 := hc1 k hlt
      by_cases he : gt l k = n
      · have HA : Hid (meB l n = true) := me_yes hlt he
        have hq : (gt l k == n) = true := by simpa using he
        clear hc1 hrd he
        go_wp2
        go_ret
        exact ⟨ret_bool HA.out.symm, rfl⟩
      · have HA := Lib.hid (show ∀ i, i < k + 1 → gt l i ≠ n from fun i hi => by
          by_cases e : i = k
          · subst e; exact he
          · exact HM.out i (by omega))
        have hq : (gt l k == n) = false := by simpa using he
        clear hc1 hrd he
        go_wp2
        go_round
        case rel => exact ⟨k + 1, by omega, by go_num, HA.out⟩
        case measure => simp [intOf]; omega
    · clear hrd
      go_wp2
      go_ret
      obtain rfl : k = l.length := by omega
      exact ⟨ret_bool (me_no HM.out).symm, rfl⟩
end Go.Proofs.Ytajlopigpppeaaa
