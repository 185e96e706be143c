/- The tunes whose contour holds a contour: plain part, the program and the reference. -/
import Derived.Test.YtkbceojeahninaaNssB
import Derived.Test.YtkbceojeahninaaContOf
import Derived.Test.YtkbceojeahninaaContour
import Derived.Test.YtkbceojeahninaaShelfK
import Derived.Lib.IndexMore
import Derived.IntWalk
namespace Go.Proofs.Ytkbceojeahninaa
open Go.ChangeShapes Go.WideShapes Go.ChangeAt Go.RowKit
set_option linter.unusedVariables false
def hasC (c s : ByteArray) : Bool := Lib.contains c.data.toList s.data.toList
def fndC (c s : ByteArray) (i : Nat) : Bool := decide (∃ j, j < i ∧ j + s.size ≤ c.size ∧ Lib.occAt c.data.toList s.data.toList j = true)
theorem fndC_zero (c s : ByteArray) : fndC c s 0 = false := decide_eq_false fun ⟨j, hj, _⟩ => by omega
theorem fndC_keep {c s : ByteArray} {i : Nat} (h : fndC c s i = true) : fndC c s (i + 1) = true := by
  obtain ⟨j, hj, h1, h2⟩ := of_decide_eq_true h
  exact decide_eq_true ⟨j, by omega, h1, h2⟩
theorem fndC_yes {c s : ByteArray} {i : Nat} (hi : i + s.size ≤ c.size) (h : ((c.extract i (i + s.size)).toList == s.toList) = true) : fndC c s (i + 1) = true :=
  decide_eq_true ⟨i, by omega, hi, by rw [Lib.occ_of_piece c s i hi]; exact h⟩
theorem fndC_no {c s : ByteArray} {i : Nat} (hi : i + s.size ≤ c.size) (h0 : fndC c s i = false) (h : ((c.extract i (i + s.size)).toList == s.toList) = false) : fndC c s (i + 1) = false := by
  refine decide_eq_false fun ⟨j, hj, h1, h2⟩ => ?_
  by_cases e : j = i
  · subst e; rw [Lib.occ_of_piece c s j hi, h] at h2; cases h2
  · exact of_decide_eq_false h0 ⟨j, by omega, h1, h2⟩
theorem fndC_end {c s : ByteArray} {i : Nat} (hi : ¬ i + s.size ≤ c.size) : fndC c s i = hasC c s := by
  unfold fndC hasC Lib.contains
  rw [decide_eq_decide]
  have hl : c.data.toList.length = c.size := by simp
  rcases Lib.index_spec c.data.toList s.data.toList with ⟨h1, h2⟩ | ⟨k, h1, h2, h3, h4⟩
  · constructor
    · rintro ⟨j, hj, h5, h6⟩
      have := h2 j (by omega)
      rw [this] at h6; cases h6
    · intro h; omega
  · constructor
    · intro _; omega
    · intro _
      have hr := Lib.index_room c.data.toList s.data.toList (by omega)
      rw [h1] at hr
      have hs : s.data.toList.length = s.size := by simp
      exact ⟨k, by omega, by omega, h3⟩
def fdsTo (ls : List (List (Int × Int))) (f : List (Int × Int) → Bool) : Nat → List Int
  | 0 => []
  | k + 1 => if f (nt ls k) = true then fdsTo ls f k ++ [(k : Int)] else fdsTo ls f k
theorem fds_yes {ls : List (List (Int × Int))} {f : List (Int × Int) → Bool} {k : Nat} (h : f (nt ls k) = true) : fdsTo ls f (k + 1) = fdsTo ls f k ++ [(k : Int)] := if_pos h
theorem fds_no {ls : List (List (Int × Int))} {f : List (Int × Int) → Bool} {k : Nat} (h : f (nt ls k) = false) : fdsTo ls f (k + 1) = fdsTo ls f k := if_neg (by rw [h]; simp)
theorem fdsTo_len (ls : List (List (Int × Int))) (f : List (Int × Int) → Bool) : ∀ k, (fdsTo ls f k).length ≤ k
  | 0 => Nat.le_refl _
  | k + 1 => by have := fdsTo_len ls f k; unfold fdsTo; split <;> simp <;> omega
noncomputable def hsC (s : ByteArray) (l : List (Int × Int)) : Bool := hasC (conB l) s
def cokB (s : ByteArray) : Bool := decide (s.size ≤ 39) && cok s
noncomputable def fndL (ls : List (List (Int × Int))) (s : ByteArray) : List Int := if areB ls 20 = true ∧ cokB s = true then fdsTo ls (hsC s) ls.length else []
theorem fndL_yes {ls : List (List (Int × Int))} {s : ByteArray} (h1 : areB ls 20 = true) (h2 : cokB s = true) : fndL ls s = fdsTo ls (hsC s) ls.length := if_pos ⟨h1, h2⟩
theorem fndL_no {ls : List (List (Int × Int))} {s : ByteArray} (h : ¬ (areB ls 20 = true ∧ cokB s = true)) : fndL ls s = [] := if_neg h
theorem fndL_len (ls : List (List (Int × Int))) (s : ByteArray) : (fndL ls s).length ≤ ls.length := by
  unfold fndL; split
  · exact fdsTo_len _ _ _
  · simp
theorem conB_size (l : List (Int × Int)) : (conB l).size ≤ 40 := by
  cases h : tuneB l
  · rw [conB_no h, mkS_size]; simp
  · have h4 := (of_decide_eq_true h : tuneP l).2
    rw [conB_yes h]
    rw [mkS_size, conZ_len]
    omega
theorem are_len {ls : List (List (Int × Int))} {m : Int} (h : areB ls m = true) : (ls.length : Int) ≤ m := by
  unfold areB at h; rw [Bool.and_eq_true] at h; exact of_decide_eq_true h.1
theorem are_at {ls : List (List (Int × Int))} {m : Int} (h : areB ls m = true) {k : Nat} (hk : k < ls.length) : tuneB (nt ls k) = true := by
  unfold areB at h; rw [Bool.and_eq_true] at h; exact (of_decide_eq_true h.2 : allOk ls ls.length) k hk
theorem are_no {ls : List (List (Int × Int))} {m : Int} {k : Nat} (hk : k < ls.length) (h : tuneB (nt ls k) = false) : areB ls m = false := by
  cases hc : areB ls m
  · rfl
  · rw [are_at hc hk] at h; cases h
theorem are_big {ls : List (List (Int × Int))} {m : Int} (h : ¬ (ls.length : Int) ≤ m) : areB ls m = false := by
  cases hc : areB ls m
  · rfl
  · exact absurd (are_len hc) h
theorem are_yes {ls : List (List (Int × Int))} {m : Int} (h : (ls.length : Int) ≤ m) (h2 : allOk ls ls.length) : areB ls m = true := by
  unfold areB; rw [decide_eq_true h, decide_eq_true h2]; rfl
theorem contains_at (c s : ByteArray) (m : Int) (w : World) (hs : c.size < 4294967281) (hm : w.cell? ⟨0, 0, none⟩ = some (.int .i64 m)) :
    Calls Try.prog 69 #[.string c, .string s] w fun e w' => e = .returned (.bool (hasC c s)) ∧ w = w' :=
  (Any.strings_Contains Try.lays144 c s m w hs hm).mono fun _ _ ⟨h1, h2⟩ => ⟨h1, h2.symm⟩
attribute [local irreducible] nt tuneB conB cokB cok areB fdsTo hasC hsC in
set_option maxHeartbeats 1600000 in
theorem impl_Find (A : Option Addr) (c : Nat) (ls : List (List (Int × Int))) (s : ByteArray) (m : Int) (w : World) (hm : w.cell? ⟨0, 0, none⟩ = some (.int .i64 m)) (hrd : RdNS w A ls) (hl : ls.length ≤ 1000000000) (hn : ∀ k, k < ls.length → (nt ls k).length ≤ 1000000000) (hs : s.size ≤ maxLen) :
    Calls Try.prog 35 #[.slice A ls.length c, .string s] w (RetI 3 w.heap.size (fndL ls s) w) := by
  have HNL := Lib.hid hn
  have hcok := Lib.hid (show ∀ w : World, Calls Try.prog 32 #[.string s] w fun e w' => e = .returned (.bool (cokB s)) ∧ w = w' from fun w => by have := impl_ContourOk s w hs; unfold cokB; exact this)
  have h00 : 0 < w.heap.size := World.block_lt_of_cell? w ⟨0, 0, none⟩ hm
  clear hn
  cases hA : areB ls 20
  · have HV := Lib.hid (fndL_no (ls := ls) (s := s) (by rw [hA]; simp))
    have HA := Lib.hid hA
    clear hA
    go_enter Try.func35, Try.ntmps35
    go_wp2_with fail
    refine (areTunes_any _ _ _ _ _ hrd hl HNL.out).mono ?_
    rintro e w1 ⟨rfl, hb1⟩
    rw [HA.out]
    go_wp2
    go_ret
    rw [HV.out]
    exact RetI.mk (OwnI.nil0 _ _ _) hb1
  · cases hC : cokB s
    · have HV := Lib.hid (fndL_no (ls := ls) (s := s) (by rw [hC]; simp))
      have HA := Lib.hid hA
      have HC := Lib.hid hC
      clear hA hC
      go_enter Try.func35, Try.ntmps35
      go_wp2_with fail
      refine (areTunes_any _ _ _ _ _ hrd hl HNL.out).mono ?_
      rintro e w1 ⟨rfl, hb1⟩
      rw [HA.out]
      go_wp2_with fail
      refine (hcok.out _).mono ?_
      rintro e wz ⟨rfl, rfl⟩
      rw [HC.out]
      go_wp2
      go_ret
      rw [HV.out]
      exact RetI.mk (OwnI.nil0 _ _ _) hb1
    · have HV := Lib.hid (fndL_yes hA hC)
      have HA := Lib.hid hA
      have HC := Lib.hid hC
      have hl20 := are_len hA
      have HZ0 := Lib.hid (show fdsTo ls (hsC s) 0 = [] by unfold fdsTo; rfl)
      have HL := Lib.hid (fdsTo_len ls (hsC s))
      have HCS := Lib.hid (fun l => conB_size l)
      have HH := Lib.hid (fun l => (show hasC (conB l) s = hsC s l by unfold hsC; rfl))
      clear hA hC
      go_enter Try.func35, Try.ntmps35
      go_wp2_with fail
      refine (areTunes_any _ _ _ _ _ hrd hl HNL.out).mono ?_
      rintro e w1 ⟨rfl, hb1⟩
      rw [HA.out]
      go_wp2_with fail
      refine (hcok.out _).mono ?_
      rintro e wz ⟨rfl, rfl⟩
      rw [HC.out]
      have ho1 := (OwnI.lit0 w1 3).base_le hb1.size
      have hb01 := hb1.alloc hb1.size (.cells #[] 3)
      go_wp2
      go_loopw [5, 19] (fun v i wr => ∃ k : Nat, k ≤ ls.length ∧ i = .int .i64 k ∧ OwnI 3 w.heap.size wr v (fdsTo ls (hsC s) k) ∧ Below w.heap.size w wr) (fun _ i _ => ls.length - (intOf i).toNat)
      case atStart => exact ⟨0, by omega, rfl, by rw [HZ0.out]; exact ho1, hb01⟩
      case round =>
        clear ho1 hb01
        obtain ⟨k, hk, rfl, ho, hb⟩ := hrel
        by_cases hlt : k < ls.length
        · have hlen := HL.out k
          obtain ⟨b1, o1, rfl, l1, hc1⟩ := hrd (by omega)
          obtain ⟨A1, c1, p1, _, _, p4⟩ := hc1 k hlt
          have k1 := (hb.cell (p := ⟨b1, o1 + k, none⟩) l1).trans p1
          have hnl := HNL.out k hlt
          have rk := p4.below hb rfl
          have hcs := HCS.out (nt ls k)
          clear hc1 p1 p4
          go_wp2_with fail
          refine (impl_ContourOf _ _ _ _ rk hnl).mono ?_
          rintro e w2 ⟨rfl, hb2⟩
          have hb02 := hb.trans (hb2.mono hb.size)
          have ho2 := ho.below hb2 rfl
          have hm2 := (hb02.cell (p := ⟨0, 0, none⟩) h00).trans hm
          have hs2 := hb02.size
          go_wp2_with fail
          refine (contains_at (conB (nt ls k)) s m w2 (by omega) hm2).mono ?_
          rintro e wz ⟨rfl, rfl⟩
          rw [HH.out]
          clear hm2 ho hb hb2
          cases hf : hsC s (nt ls k)
          · have HE := Lib.hid (fds_no (ls := ls) hf)
            clear hf
            go_wp2
            go_roundw
            case rel => exact ⟨k + 1, by omega, by go_num, by rw [HE.out]; exact ho2, hb02⟩
            case measure => simp [intOf]; omega
          · have HE := Lib.hid (fds_yes (ls := ls) hf)
            clear hf
            go_wp2_with (at_builtin; refine app_int rfl _ _ 24 rfl 3 Try.underlying24 (by kernel_rfl) w.heap.size _ (fdsTo ls (hsC s) k) (k : Int) ho2 rfl rfl (by omega) hs2 ?_; intro v' w3 hown3 hb3)
            go_roundw
            case rel => exact ⟨k + 1, by omega, by go_num, by rw [HE.out]; exact hown3, hb02.trans hb3⟩
            case measure => simp [intOf]; omega
        · obtain rfl : k = ls.length := by omega
          go_wp2
          go_ret
          rw [HV.out]
          exact RetI.mk ho hb
end Go.Proofs.Ytkbceojeahninaa
