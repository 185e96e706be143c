/- The gaps between the times of a tune, and the longest silence. -/
import Derived.Test.YtkbceojeahninaaBase
import Derived.Test.YtkbceojeahninaaApp
import Derived.Test.YtkbceojeahninaaTimes
import Derived.Test.YtkbceojeahninaaRows
import Derived.Deep.RegionHeld3
import Derived.WalkSpells
import Derived.Outline
namespace Go.Proofs.Ytkbceojeahninaa
open Go.ChangeShapes Go.WideShapes Go.ChangeAt Go.RowKit
set_option linter.unusedVariables false
def gpZ (o : List Int) : Nat → List Int
  | 0 => []
  | k + 1 => gpZ o k ++ [gt o (k + 1) - gt o k]
theorem gpZ_len (o : List Int) : ∀ k, (gpZ o k).length = k
  | 0 => rfl
  | k + 1 => by unfold gpZ; simp [gpZ_len o k]
theorem gpZ_next {o : List Int} {K m : Nat} (h : K = m + 1) : gpZ o (K + 1 - 1) = gpZ o (K - 1) ++ [gt o K - gt o m] := by
  subst h; rfl
noncomputable def gpB (l : List (Int × Int)) : List Int := gpZ (onB l) ((onB l).length - 1)
theorem gpB_len (l : List (Int × Int)) : (gpB l).length ≤ l.length := by
  unfold gpB; rw [gpZ_len]; have := onB_len l; omega
theorem gt_mem {l : List Int} {i : Nat} (h : i < l.length) : gt l i ∈ l := by
  unfold gt; rw [List.getD_eq_getElem?_getD, List.getElem?_eq_getElem h]; exact List.getElem_mem h
theorem onZ_mem {l : List (Int × Int)} {n : Nat} (ht : tuneTo l n) : ∀ k, k ≤ n → ∀ x ∈ onZ l k, 0 ≤ x ∧ x ≤ 1000
  | 0, _, x, h => by simp [onZ] at h
  | k + 1, hk, x, h => by
    unfold onZ at h
    have hr := (ht k (by omega)).1
    split at h
    · rw [List.mem_append] at h
      rcases h with h | h
      · exact onZ_mem ht k (by omega) x h
      · simp at h; subst h; exact hr
    · exact onZ_mem ht k (by omega) x h
theorem onB_rng (l : List (Int × Int)) {i : Nat} (hi : i < (onB l).length) : 0 ≤ gt (onB l) i ∧ gt (onB l) i ≤ 1000 := by
  have hm := gt_mem hi
  revert hm
  generalize gt (onB l) i = x
  intro hm
  unfold onB at hm
  split at hm
  · rename_i h
    exact onZ_mem (of_decide_eq_true h).1 _ (Nat.le_refl _) x hm
  · simp at hm
attribute [local irreducible] tm pt gt onB gpZ in
set_option maxHeartbeats 800000 in
theorem impl_GapsOf (A : Option Addr) (c : Nat) (l : List (Int × Int)) (w : World) (hrd : RdN w A l) (hl : l.length ≤ 1000000000) :
    Calls Try.prog 17 #[.slice A l.length c] w (RetI 3 w.heap.size (gpB l) w) := by
  have hol := onB_len l
  go_enter Try.func17, Try.ntmps17
  go_wp2_with fail
  refine (impl_OnTimes _ _ _ _ hrd (by omega)).mono ?_
  rintro e w1 ⟨A2, c2, rfl, ho, _, _, _, hr1, hb1⟩
  have hb01 : Below w.heap.size w (w1.alloc (Obj.cells #[] 3)) := hb1.alloc hb1.size _
  have hown1 : OwnI 3 w.heap.size (w1.alloc (Obj.cells #[] 3)) (.slice (some ⟨w1.heap.size, 0, none⟩) 0 0) [] := (OwnI.lit0 w1 3).base_le hb1.size
  have ho1 : OwnI 3 w.heap.size (w1.alloc (Obj.cells #[] 3)) (.slice A2 (onB l).length c2) (onB l) := ho.below ((Below.refl _ _).alloc (Nat.le_refl _) _) rfl
  have hne1 : (Value.slice (some ⟨w1.heap.size, 0, none⟩) 0 0).ownBlock ≠ (Value.slice A2 (onB l).length c2).ownBlock := by
    intro h
    have hx := ho.blk w1.heap.size h.symm
    omega
  go_wp2
  go_loopw [4, 5] (fun v i wr => ∃ K : Nat, 1 ≤ K ∧ K ≤ (onB l).length - 1 + 1 ∧ i = .int .i64 K ∧ OwnI 3 w.heap.size wr v (gpZ (onB l) (K - 1)) ∧ OwnI 3 w.heap.size wr (.slice A2 (onB l).length c2) (onB l) ∧ v.ownBlock ≠ (Value.slice A2 (onB l).length c2).ownBlock ∧ Below w.heap.size w wr) (fun _ i _ => (onB l).length - (intOf i).toNat)
  case atStart => exact ⟨1, by omega, by omega, rfl, by unfold gpZ; exact hown1, ho1, hne1, hb01⟩
  case round =>
    obtain ⟨K, hK1, hK2, rfl, hv, hoo, hne, hb⟩ := hrel
    by_cases hlt : K < (onB l).length
    · obtain ⟨m, hm⟩ : ∃ m, K = m + 1 := ⟨K - 1, by omega⟩
      obtain ⟨g, rfl, _, _, hcl, _⟩ := hoo.head (by omega)
      have k1 := hcl K hlt
      have k2 := hcl m (by omega)
      have hx := onB_rng l hlt
      have hy := onB_rng l (show m < (onB l).length by omega)
      have hgl : (gpZ (onB l) (K - 1)).length ≤ 1000000000 := by rw [gpZ_len]; omega
      have h0i : (0 : Int) ≤ (K : Int) := by omega
      have h0j : (K : Int) < ((onB l).length : Int) := by omega
      have h0g : (0 : Int) ≤ (m : Int) := by omega
      have h0h : (m : Int) < ((onB l).length : Int) := by omega
      have hbs := hb.size
      have HI := Lib.hid (show IntKind.i64.wrap ((K : Int) - 1) = (m : Int) by rw [show ((K : Int) - 1) = (m : Int) by omega]; exact IntWalk.i64_in _ (by omega))
      have HJ := Lib.hid (show IntKind.i64.wrap (gt (onB l) K - gt (onB l) m) = gt (onB l) K - gt (onB l) m from IntWalk.i64_in _ (by omega))
      obtain ⟨Av, cv, rfl, _, _, _⟩ := hv.rd
      have hneg : (Value.slice Av (gpZ (onB l) (K - 1)).length cv).ownBlock ≠ some g := hne
      have HG := Lib.hid (gpZ_next (o := onB l) hm)
      clear hcl hm hrd hx hy
      go_wp2_with fail
      have hwr := HI.out
      have hws := HJ.out
      go_region_held3 (fun w' => w'.cell? ⟨g, K, none⟩ = some (.int .i64 (gt (onB l) K)) ∧ w'.cell? ⟨g, m, none⟩ = some (.int .i64 (gt (onB l) m)))
        (first
          | go_keep
          | (go_split_ands
             refine ⟨?_, ?_⟩
             · (rw [hgr.cell_far _ (by simp; omega) (Ne.symm hneg)]; assumption)
             · (rw [hgr.cell_far _ (by simp; omega) (Ne.symm hneg)]; assumption)))
        ((refine step_app_int (by rfl) _ _ _ (by rfl) 3 Try.underlying24 (by kernel_rfl) w.heap.size (.slice Av (gpZ (onB l) (K - 1)).length cv) (gpZ (onB l) (K - 1)) (gt (onB l) K - gt (onB l) m) wr.heap.size ((hv.alloc _).drew) (by rfl) (by rfl) (by simp [go_sem]) (by omega) (by simp; omega) ?_; intro v' w2 hown2 hbn hgr hvb))
      clear hwr hws
      have hoo2 := (hoo.below ((Below.refl _ _).alloc (Nat.le_refl _) (Obj.cells #[Value.int IntKind.i64 (gt (onB l) K - gt (onB l) m)] 3)).drew rfl)
      go_wp2
      go_roundw
      case rel => exact ⟨K + 1, by omega, by omega, by go_num, by rw [HG.out]; exact hown2, hoo2.keep hgr (Or.inr hne.symm), ne_block hoo2 hne hvb, ((hb.alloc hbs _).drew).trans hbn⟩
      case measure => simp [intOf]; omega
    · go_wp2
      go_ret
      have he : gpB l = gpZ (onB l) (K - 1) := by unfold gpB; rw [show (onB l).length - 1 = K - 1 by omega]
      rw [he]
      exact RetI.mk hv hb
def maxTo (g : List Int) : Nat → Int
  | 0 => 0
  | k + 1 => max (maxTo g k) (gt g k)
noncomputable def lsB (l : List (Int × Int)) : Int := if tuneB l then maxTo (gpB l) (gpB l).length else -1
theorem lsB_yes {l : List (Int × Int)} (h : tuneB l = true) : lsB l = maxTo (gpB l) (gpB l).length := by unfold lsB; rw [h]; rfl
theorem lsB_no {l : List (Int × Int)} (h : tuneB l = false) : lsB l = -1 := by unfold lsB; rw [h]; rfl
end Go.Proofs.Ytkbceojeahninaa
