/- The times at which a tune sounds harsh: the program's own. -/
import Derived.Test.YtkbceojeahninaaSndsS
import Derived.Test.YtkbceojeahninaaSweet
import Derived.Test.YtkbceojeahninaaGaps
namespace Go.Proofs.Ytkbceojeahninaa
open Go.ChangeShapes Go.WideShapes Go.ChangeAt Go.RowKit
set_option linter.unusedVariables false
noncomputable def hrQ (l : List (Int × Int)) (L x : Int) : Bool := hsF (souB l x L) (souB l x L).length
noncomputable def hrZ (l : List (Int × Int)) (L : Int) (o : List Int) : Nat → List Int
  | 0 => []
  | k + 1 => if hrQ l L (gt o k) = true then hrZ l L o k ++ [gt o k] else hrZ l L o k
theorem hrZ_len (l : List (Int × Int)) (L : Int) (o : List Int) : ∀ k, (hrZ l L o k).length ≤ k
  | 0 => Nat.le_refl _
  | k + 1 => by have := hrZ_len l L o k; unfold hrZ; split <;> simp <;> omega
theorem hr_yes {l : List (Int × Int)} {L : Int} {o : List Int} {k : Nat} (h : hrQ l L (gt o k) = true) : hrZ l L o (k + 1) = hrZ l L o k ++ [gt o k] := if_pos h
theorem hr_no {l : List (Int × Int)} {L : Int} {o : List Int} {k : Nat} (h : hrQ l L (gt o k) = false) : hrZ l L o (k + 1) = hrZ l L o k := if_neg (by rw [h]; simp)
def hrOk (l : List (Int × Int)) (L : Int) : Prop := tuneB l = true ∧ 1 ≤ L ∧ L ≤ 100
noncomputable instance (l : List (Int × Int)) (L : Int) : Decidable (hrOk l L) := Classical.propDecidable _
noncomputable def hrB (l : List (Int × Int)) (L : Int) : List Int := if hrOk l L then hrZ l L (onB l) (onB l).length else []
theorem hrB_yes {l : List (Int × Int)} {L : Int} (h : hrOk l L) : hrB l L = hrZ l L (onB l) (onB l).length := if_pos h
theorem hrB_no {l : List (Int × Int)} {L : Int} (h : ¬ hrOk l L) : hrB l L = [] := if_neg h
theorem hrB_len (l : List (Int × Int)) (L : Int) : (hrB l L).length ≤ l.length := by
  unfold hrB; split
  · have := hrZ_len l L (onB l) (onB l).length; have := onB_len l; omega
  · simp
theorem sel_mem {f : Nat → Bool} {x : Int} : ∀ P, x ∈ selZ f P → 0 ≤ x ∧ x < (P : Int)
  | 0, h => by simp [selZ] at h
  | P + 1, h => by
    unfold selZ at h
    split at h
    · rw [List.mem_append, List.mem_singleton] at h
      rcases h with h | h
      · have := sel_mem P h; omega
      · omega
    · have := sel_mem P h; omega
theorem souB_p60 {l : List (Int × Int)} {T L : Int} {i : Nat} (h : i < (souB l T L).length) : p60 (gt (souB l T L) i) := by
  have hm : gt (souB l T L) i ∈ souB l T L := by
    unfold gt; rw [List.getD_eq_getElem?_getD, List.getElem?_eq_getElem h]; exact List.getElem_mem h
  have key : ∀ x ∈ souB l T L, p60 x := by
    intro x hx
    unfold souB at hx
    split at hx
    · have := sel_mem 61 hx; exact ⟨this.1, by omega⟩
    · simp at hx
  exact key _ hm
attribute [local irreducible] gt souB hrQ hrZ hsF harI onB tuneB in
set_option maxHeartbeats 1600000 in
theorem impl_Harsh_ok (A : Option Addr) (c : Nat) (l : List (Int × Int)) (L : Int) (w : World) (hrd : RdN w A l) (hl : l.length ≤ 1000000) (hok : hrOk l L) :
    Calls Try.prog 21 #[.slice A l.length c, .int .i64 L] w (RetI 3 w.heap.size (hrZ l L (onB l) (onB l).length) w) := by
  have hol := onB_len l
  have HB := Lib.hid hok.1
  have hL := hok.2
  clear hok
  go_enter Try.func21, Try.ntmps21
  go_wp2_with fail
  refine (impl_TuneOk _ _ _ _ hrd (by omega)).mono ?_
  rintro e w1 ⟨rfl, hb1⟩
  rw [HB.out]
  have hr1 := hrd.below hb1 rfl
  go_wp2_with fail
  refine (wi_yes _ _ _ _ hL).mono ?_
  rintro e wz ⟨rfl, rfl⟩
  go_wp2_with fail
  refine (impl_OnTimes _ _ _ _ (hr1.below ((Below.refl _ _).alloc (Nat.le_refl _) _) rfl) (by omega)).mono ?_
  rintro e w2 ⟨A2, c2, rfl, ho, _, _, _, hr2, hb2⟩
  have hz2 : (w1.alloc (Obj.cells #[] 3)).heap.size = w1.heap.size + 1 := by simp
  have hb02 : Below w1.heap.size w1 w2 := ((Below.refl _ _).alloc (Nat.le_refl _) _).trans (hb2.mono (by simp))
  have hown1 : OwnI 3 w1.heap.size w2 (.slice (some ⟨w1.heap.size, 0, none⟩) 0 0) [] := (OwnI.lit0 w1 3).below hb2 rfl
  have hne1 : (Value.slice (some ⟨w1.heap.size, 0, none⟩) 0 0).ownBlock ≠ (Value.slice A2 (onB l).length c2).ownBlock := by
    intro h
    have hx := ho.blk w1.heap.size h.symm
    simp at hx
    omega
  have ho2 : OwnI 3 w1.heap.size w2 (.slice A2 (onB l).length c2) (onB l) := ho.base_le (by simp)
  clear hrd hb2 ho hr2
  go_wp2
  go_loopw [5, 20] (fun v i wr => ∃ K : Nat, K ≤ (onB l).length ∧ i = .int .i64 K ∧ OwnI 3 w1.heap.size wr v (hrZ l L (onB l) K) ∧ OwnI 3 w1.heap.size wr (.slice A2 (onB l).length c2) (onB l) ∧ v.ownBlock ≠ (Value.slice A2 (onB l).length c2).ownBlock ∧ Below w1.heap.size w1 wr) (fun _ i _ => (onB l).length - (intOf i).toNat)
  case atStart => exact ⟨0, by omega, rfl, by rw [show hrZ l L (onB l) 0 = [] by unfold hrZ; rfl]; exact hown1, ho2, hne1, hb02⟩
  case round =>
    clear hown1 ho2 hne1 hb02
    obtain ⟨K, hK, rfl, hv, hoo, hne, hb⟩ := hrel
    by_cases hlt : K < (onB l).length
    · obtain ⟨g, rfl, _, hgl, hcl, _⟩ := hoo.head (by omega)
      have k1 := hcl K hlt
      have hx := onB_rng l hlt
      have hgr := hrZ_len l L (onB l) K
      have hsl := souB_len l (gt (onB l) K) L
      have rk := hr1.below hb rfl
      have HQ := Lib.hid (show hrQ l L (gt (onB l) K) = harI (souB l (gt (onB l) K) L) (souB l (gt (onB l) K) L).length by unfold hrQ; rw [har_eq])
      clear hcl
      go_wp2_with fail
      refine (impl_SoundsAt _ _ _ _ _ _ rk (by omega)).mono ?_
      rintro e w3 ⟨A3, c3, rfl, ho3, hc3, hm3, _, hr3, hb3⟩
      have hb4 := hb.trans (hb3.mono hb.size)
      have hv3 := hv.below hb3 rfl
      have hoo3 := hoo.below hb3 rfl
      have hBs := hb4.size
      go_wp2_with fail
      refine (isHarsh_any _ _ _ _ hr3 hc3 hm3 (by omega) (fun i hi => souB_p60 hi)).mono ?_
      rintro e wz ⟨rfl, rfl⟩
      rw [← HQ.out]
      clear hr3 ho3 hb3 rk
      cases hq : hrQ l L (gt (onB l) K)
      · have HY := Lib.hid (hr_no hq)
        clear hq
        go_wp2
        go_roundw
        case rel => exact ⟨K + 1, by omega, by go_num, by rw [HY.out]; exact hv3, hoo3, hne, hb4⟩
        case measure => simp [intOf]; omega
      · have HY := Lib.hid (hr_yes hq)
        clear hq
        go_wp2_with (at_builtin; refine app_int_b rfl _ _ 24 rfl 3 Try.underlying24 (by kernel_rfl) w1.heap.size _ (hrZ l L (onB l) K) (gt (onB l) K) hv3 rfl rfl (by omega) hBs ?_; intro v' w5 hown5 hb5 hgr5 hvb5)
        have hoo5 := hoo3.keep hgr5 (Or.inr hne.symm)
        have hne5 := ne_block hoo3 hne hvb5
        go_roundw
        case rel => exact ⟨K + 1, by omega, by go_num, by rw [HY.out]; exact hown5, hoo5, hne5, hb4.trans hb5⟩
        case measure => simp [intOf]; omega
    · obtain rfl : K = (onB l).length := by omega
      go_wp2
      go_ret
      exact RetI.mk (hv.base_le hb1.size) (hb1.trans (hb.mono hb1.size))
theorem impl_Harsh (A : Option Addr) (c : Nat) (l : List (Int × Int)) (L : Int) (w : World) (hrd : RdN w A l) (hl : l.length ≤ 1000000000) :
    Calls Try.prog 21 #[.slice A l.length c, .int .i64 L] w (RetI 3 w.heap.size (hrB l L) w) := by
  by_cases hok : hrOk l L
  · rw [hrB_yes hok]
    have h1 := tune_len2 hok.1
    exact impl_Harsh_ok A c l L w hrd (by omega) hok
  · have HV := Lib.hid (hrB_no hok)
    cases hB : tuneB l
    · have HB := Lib.hid hB
      clear hB hok
      go_enter Try.func21, Try.ntmps21
      go_wp2_with fail
      refine (impl_TuneOk _ _ _ _ hrd (by omega)).mono ?_
      rintro e w1 ⟨rfl, hb1⟩
      rw [HB.out]
      go_wp2
      go_ret
      rw [HV.out]
      exact RetI.mk (OwnI.nil0 _ _ _) hb1
    · have HB := Lib.hid hB
      have hL : ¬ (1 ≤ L ∧ L ≤ 100) := fun h => hok ⟨hB, h⟩
      clear hB hok
      go_enter Try.func21, Try.ntmps21
      go_wp2_with fail
      refine (impl_TuneOk _ _ _ _ hrd (by omega)).mono ?_
      rintro e w1 ⟨rfl, hb1⟩
      rw [HB.out]
      go_wp2_with fail
      refine (wi_no _ _ _ _ hL).mono ?_
      rintro e wz ⟨rfl, rfl⟩
      go_wp2
      go_ret
      rw [HV.out]
      exact RetI.mk (OwnI.nil0 _ _ _) hb1
end Go.Proofs.Ytkbceojeahninaa
