/- spec.Backward: a tune played backward. -/
import Derived.Test.YtkbceojeahninaaLaterS
import Derived.Test.YtkbceojeahninaaDTune
namespace Go.Proofs.Ytkbceojeahninaa
open Go.ChangeShapes Go.WideShapes Go.ChangeAt Go.RowKit
set_option linter.unusedVariables false
def bacTo (l : List (Int × Int)) : Nat → List (Int × Int)
  | 0 => []
  | k + 1 => bacTo l k ++ [(tm l 0 + tm l (l.length - 1) - tm l k, pt l k)]
theorem bacTo_len (l : List (Int × Int)) : ∀ k, (bacTo l k).length = k
  | 0 => rfl
  | k + 1 => by rw [bacTo, List.length_append, bacTo_len l k]; rfl
theorem bacTo_succ (l : List (Int × Int)) (k : Nat) : bacTo l (k + 1) = bacTo l k ++ [(tm l 0 + tm l (l.length - 1) - tm l k, pt l k)] := rfl
def bacL (l : List (Int × Int)) : List (Int × Int) := srt40 (bacTo l l.length)
theorem heldBk_keep {w v u : World} {b o1 o2 o3 o4 N : Nat} {u1 u2 u3 u4 : Value} (l1 : b < N)
    (h : v.cell? ⟨b, o1, none⟩ = some u1 ∧ v.cell? ⟨b, o2, none⟩ = some u2 ∧ v.cell? ⟨b, o3, none⟩ = some u3 ∧ v.cell? ⟨b, o4, none⟩ = some u4 ∧ Below N w v) (hb : Below N v u) :
    u.cell? ⟨b, o1, none⟩ = some u1 ∧ u.cell? ⟨b, o2, none⟩ = some u2 ∧ u.cell? ⟨b, o3, none⟩ = some u3 ∧ u.cell? ⟨b, o4, none⟩ = some u4 ∧ Below N w u := by
  obtain ⟨h1, h2, h3, h4, h5⟩ := h
  exact ⟨(hb.cell (p := ⟨b, o1, none⟩) l1).trans h1, (hb.cell (p := ⟨b, o2, none⟩) l1).trans h2, (hb.cell (p := ⟨b, o3, none⟩) l1).trans h3, (hb.cell (p := ⟨b, o4, none⟩) l1).trans h4, h5.trans hb⟩
theorem heldBk_bel {w v : World} {b o1 o2 o3 o4 N : Nat} {u1 u2 u3 u4 : Value} (h : v.cell? ⟨b, o1, none⟩ = some u1 ∧ v.cell? ⟨b, o2, none⟩ = some u2 ∧ v.cell? ⟨b, o3, none⟩ = some u3 ∧ v.cell? ⟨b, o4, none⟩ = some u4 ∧ Below N w v) : Below N w v := h.2.2.2.2
attribute [local irreducible] tm pt tuneB srt srt40 bacTo bacL in
set_option maxHeartbeats 1600000 in
theorem spec_Back (A : Option Addr) (c : Nat) (l : List (Int × Int)) (w : World) (hrd : RdN w A l) (hB : tuneB l = true) :
    Calls Try.prog 31 #[.slice A l.length c] w (RetN 37 w.heap.size (bacL l) w) := by
  have HB := Lib.hid hB
  have hl40 := tune_len5 hB
  have HT := Lib.hid (fun (k : Nat) (hk : k < l.length) => tm_rng hB hk)
  have HS0 := Lib.hid (show srt40 (bacTo l l.length) = bacL l by unfold bacL; rfl)
  have HZ0 := Lib.hid (show bacTo l 0 = [] by unfold bacTo; rfl)
  have HAL := Lib.hid (bacTo_len l)
  have hz := OwnN.lit0 w 37
  have hbz : Below w.heap.size w (w.alloc (.cells #[] 37)) := (Below.refl _ _).alloc (Nat.le_refl _) _
  clear hB
  go_enter Try.func31, Try.ntmps31
  go_wp2
  go_loopw [3, 4] (fun v i wr => ∃ (k go co : Nat), k ≤ l.length ∧ v = .slice (some ⟨go, 0, none⟩) (bacTo l k).length co ∧ i = .int .i64 k ∧ OwnN 37 w.heap.size wr (.slice (some ⟨go, 0, none⟩) (bacTo l k).length co) (bacTo l k) ∧ Below w.heap.size w wr) (fun _ i _ => l.length - (intOf i).toNat)
  case atStart => exact ⟨0, w.heap.size, 0, by omega, by rw [HZ0.out]; rfl, rfl, by rw [HZ0.out]; exact hz, hbz⟩
  case round =>
    clear hz hbz
    obtain ⟨k, go, co, hk, rfl, rfl, ho, hb⟩ := hrel
    by_cases hlt : k < l.length
    · have h0a : (0 : Int) ≤ (k : Int) := by omega
      have h0b : (k : Int) < (l.length : Int) := by omega
      go_wp2_with fail
      refine (spec_TuneOk _ _ _ _ (hrd.below hb rfl) (by omega)).mono ?_
      rintro e w1 ⟨rfl, hb1⟩
      rw [HB.out]
      have ho1 := ho.below hb1 rfl
      have hbb := hb.trans (hb1.mono hb.size)
      clear hb1 hb ho
      obtain ⟨m, hm⟩ : ∃ m : Nat, l.length = m + 1 := ⟨l.length - 1, by omega⟩
      have HM := Lib.hid hm
      have h0m : (0 : Int) ≤ (m : Int) := by omega
      have h0n : (m : Int) < (l.length : Int) := by omega
      have h00 : (0 : Int) < (l.length : Int) := by omega
      have h01 : 0 < l.length := by omega
      have h02 : ¬ l = [] := fun e => by rw [e] at h01; simp at h01
      have h03 : decide ((0 : Int) < (l.length : Int)) = true := decide_eq_true h00
      have h04 : decide (0 < l.length) = true := decide_eq_true h01
      have hmm : l.length - 1 = m := by omega
      have HN := Lib.hid (show bacTo l (k + 1) = bacTo l k ++ [(tm l 0 + tm l m - tm l k, pt l k)] by rw [bacTo_succ, hmm])
      have hw4 : IntKind.i64.wrap ((l.length : Int) - 1) = (m : Int) := by rw [show ((l.length : Int) - 1) = (m : Int) by omega]; exact IntWalk.i64_in _ (by omega)
      obtain ⟨b, o, rfl, lb, hc⟩ := hrd (by omega)
      have k0 := (hbb.cell (p := ⟨b, o, none⟩) lb).trans (by have := (hc 0 (by omega)).1; simpa using this)
      have km := (hbb.cell (p := ⟨b, o + m * 2, none⟩) lb).trans (hc m (by omega)).1
      have k1 := (hbb.cell (p := ⟨b, o + k * 2, none⟩) lb).trans (hc k hlt).1
      have k2 := (hbb.cell (p := ⟨b, o + k * 2 + 1, none⟩) lb).trans (hc k hlt).2
      have a0 := HT.out 0 (by omega)
      have am := HT.out m (by omega)
      have ak := HT.out k hlt
      have hw1 : IntKind.i64.wrap (tm l 0 + tm l m) = tm l 0 + tm l m := IntWalk.i64_in _ (by omega)
      have hw2 : IntKind.i64.wrap (tm l 0 + tm l m - tm l k) = tm l 0 + tm l m - tm l k := IntWalk.i64_in _ (by omega)
      have hlen : (bacTo l k).length ≤ 40 := by rw [HAL.out]; omega
      clear hc hm hmm a0 am ak
      have hbs := hbb.size
      go_wp2_with fail
      go_region_held3 (fun w' => w'.cell? ⟨b, o, none⟩ = some (.int .i64 (tm l 0)) ∧ w'.cell? ⟨b, o + m * 2, none⟩ = some (.int .i64 (tm l m)) ∧ w'.cell? ⟨b, o + k * 2, none⟩ = some (.int .i64 (tm l k)) ∧ w'.cell? ⟨b, o + k * 2 + 1, none⟩ = some (.int .i64 (pt l k)) ∧ Below w.heap.size w1 w')
        (first | exact ⟨k0, km, k1, k2, (Below.refl _ _).drew⟩ | exact ⟨k0, km, k1, k2, Below.refl _ _⟩ | assumption | exact heldBk_keep lb (by assumption) ((Below.refl _ _).alloc (Nat.le_trans hbs (heldBk_bel (by assumption)).size) _) | exact heldBk_keep lb (by assumption) ((Below.refl _ _).alloc (Nat.le_trans hbs (heldBk_bel (by assumption)).size) _).drew | exact heldBk_keep lb (by assumption) hbn3)
        ((refine step_app_pairs rfl (.tmp 16) (.tmp 41) _ rfl 37 Try.underlying32 (by kernel_rfl) w.heap.size go co _ 1 (bacTo l k) [(tm l 0 + tm l m - tm l k, pt l k)] _ 1 rfl rfl rfl rfl rfl (ho1.alloc _) (rd_one _ _ _ _) (len_1 hlen) (Nat.le_trans hbs (heldBk_bel (by assumption)).size) ?_; intro g3 c3 w3 hown3 hbn3 hgr3))
      have hB3 : Below w.heap.size w w3 := hbb.trans (heldBk_bel (by assumption))
      go_wp2
      go_roundw
      case rel => exact ⟨k + 1, g3, c3, by omega, by rw [HN.out]; simp, by go_num, by rw [HN.out]; exact hown3, hB3⟩
      case measure => simp [intOf]; omega
    · obtain rfl : k = l.length := by omega
      have h0b : ¬ (l.length : Int) < (l.length : Int) := by omega
      go_wp2_with fail
      refine (spec_SortNotes _ _ _ _ ho.rdA (by rw [HAL.out]; omega)).mono ?_
      rintro e w5 ⟨A5, c5, rfl, ho5, _, _, _, _, hb5⟩
      rw [HS0.out] at ho5 ⊢
      have HO := Lib.hid (ho5.base_le hb.size)
      have HB5 := Lib.hid (hb.trans (hb5.mono hb.size))
      clear ho5 hb5
      go_wp2
      go_ret
      exact RetN.mk HO.out HB5.out
end Go.Proofs.Ytkbceojeahninaa
