/- The tune of a contour from a first pitch. -/
import Derived.Test.YtkbceojeahninaaTurnC
import Derived.Test.YtkbceojeahninaaTune
import Derived.Test.YtkbceojeahninaaPart
import Derived.Test.YtkbceojeahninaaApp
import Derived.WalkSpells
import Derived.Outline
namespace Go.Proofs.Ytkbceojeahninaa
open Go.ChangeShapes Go.WideShapes Go.ChangeAt Go.RowKit
set_option linter.unusedVariables false
def dlt (c : UInt8) : Int := if c.toNat = 85 then 1 else if c.toNat = 68 then -1 else 0
def dltAt (s : ByteArray) (k : Nat) : Int := if h : k < s.size then dlt s[k] else 0
def pch (s : ByteArray) (f : Int) : Nat → Int
  | 0 => f
  | k + 1 => pch s f k + dltAt s k
theorem dltAt_eq {s : ByteArray} {k : Nat} (h : k < s.size) : dltAt s k = dlt s[k] := dif_pos h
theorem dltAt_rng (s : ByteArray) (k : Nat) : -1 ≤ dltAt s k ∧ dltAt s k ≤ 1 := by
  unfold dltAt dlt; split
  · split
    · omega
    · split <;> omega
  · omega
theorem pch_rng (s : ByteArray) (f : Int) : ∀ k : Nat, f - (k : Int) ≤ pch s f k ∧ pch s f k ≤ f + (k : Int)
  | 0 => by unfold pch; omega
  | k + 1 => by have := pch_rng s f k; have := dltAt_rng s k; unfold pch; omega
def frm (s : ByteArray) (f : Int) (n : Nat) : List (Int × Int) := (List.range n).map fun (k : Nat) => ((k : Int), pch s f k)
theorem frm_len (s : ByteArray) (f : Int) (n : Nat) : (frm s f n).length = n := by simp [frm]
theorem frm_snoc (s : ByteArray) (f : Int) (n : Nat) : frm s f (n + 1) = frm s f n ++ [((n : Int), pch s f n)] := by simp [frm, List.range_succ]
theorem frm_pt {s : ByteArray} {f : Int} {n k : Nat} (h : k < n) : pt (frm s f n) k = pch s f k := by simp [pt, frm, List.getD, h]
theorem pch_u {s : ByteArray} {f : Int} {k : Nat} (h : k < s.size) (hc : ((s[k].toNat : Int) == 85) = true) : pch s f (k + 1) = pch s f k + 1 := by
  rw [pch, dltAt_eq h]; simp at hc; unfold dlt; rw [if_pos (by omega)]
theorem pch_d {s : ByteArray} {f : Int} {k : Nat} (h : k < s.size) (hc : ((s[k].toNat : Int) == 85) = false) (hd : ((s[k].toNat : Int) == 68) = true) : pch s f (k + 1) = pch s f k - 1 := by
  rw [pch, dltAt_eq h]; simp at hc hd; unfold dlt; rw [if_neg (by omega), if_pos (by omega)]; rfl
theorem pch_s {s : ByteArray} {f : Int} {k : Nat} (h : k < s.size) (hc : ((s[k].toNat : Int) == 85) = false) (hd : ((s[k].toNat : Int) == 68) = false) : pch s f (k + 1) = pch s f k := by
  rw [pch, dltAt_eq h]; simp at hc hd; unfold dlt; rw [if_neg (by omega), if_neg (by omega)]; omega
def froOk (s : ByteArray) (f : Int) : Prop := okC s = true ∧ (0 ≤ f ∧ f ≤ 60) ∧ tuneB (frm s f (s.size + 1)) = true
noncomputable instance (s : ByteArray) (f : Int) : Decidable (froOk s f) := Classical.propDecidable _
noncomputable def froL (s : ByteArray) (f : Int) : List (Int × Int) := if froOk s f then frm s f (s.size + 1) else []
noncomputable def froQ (s : ByteArray) (f : Int) : Bool := decide (froOk s f)
theorem froL_yes {s : ByteArray} {f : Int} (h : froOk s f) : froL s f = frm s f (s.size + 1) := if_pos h
theorem froL_no {s : ByteArray} {f : Int} (h : ¬ froOk s f) : froL s f = [] := if_neg h
theorem froQ_yes {s : ByteArray} {f : Int} (h : froOk s f) : froQ s f = true := decide_eq_true h
theorem froQ_no {s : ByteArray} {f : Int} (h : ¬ froOk s f) : froQ s f = false := decide_eq_false h
theorem froL_len (s : ByteArray) (f : Int) : (froL s f).length ≤ 40 := by
  by_cases h : froOk s f
  · rw [froL_yes h]; exact (of_decide_eq_true h.2.2 : tuneP _).2
  · rw [froL_no h]; simp
theorem OwnN.lit1 (w : World) (e : TypeId) (x y : Int) : OwnN e w.heap.size (w.alloc (.cells #[.int .i64 x, .int .i64 y] e)) (.slice (some ⟨w.heap.size, 0, none⟩) 1 1) [(x, y)] :=
  ⟨by simp [pairs], .inr ⟨w.heap.size, 1, _, rfl, Nat.le_refl _, heap_alloc_new w _, Nat.le_refl _, by simp [maxLen], rfl, rfl⟩⟩
theorem frm_first (L : List (Int × Int)) (x : Int × Int) (h : 0 < L.length) : pt (L ++ [x]) 0 = pt L 0 := by
  unfold pt
  simp only [List.getD_eq_getElem?_getD, List.getElem?_append_left h]
theorem tune_first {L : List (Int × Int)} (h : 0 < L.length) (hf : ¬ (0 ≤ pt L 0 ∧ pt L 0 ≤ 60)) : tuneB L = false := tuneB_no h fun ht => hf ht.2.1
attribute [local irreducible] tm pt tuneB frm pch in
set_option maxHeartbeats 1600000 in
theorem impl_From_ok (s : ByteArray) (f : Int) (w : World) (hs : s.size ≤ maxLen) (hc : okC s = true) (hf : 0 ≤ f ∧ f ≤ 60) :
    Calls Try.prog 28 #[.string s, .int .i64 f] w (RetNB 37 w.heap.size (froL s f) (froQ s f) w) := by
  have HC := Lib.hid hc
  have hs' := hs
  unfold maxLen at hs
  have h39 : s.size ≤ 39 := by
    unfold okC at hc
    simp only [Bool.and_eq_true, decide_eq_true_eq] at hc
    exact hc.1
  have HCC := Lib.hid (show (decide (s.size ≤ 39) && cok s) = true from hc)
  clear hc
  have HF1 := Lib.hid (show frm s f 1 = [(0, f)] by unfold frm; simp [List.range_succ]; unfold pch; rfl)
  go_enter Try.func28, Try.ntmps28
  go_wp2_with fail
  refine (impl_ContourOk _ _ hs').mono ?_
  rintro e wz ⟨rfl, rfl⟩
  rw [HCC.out]
  go_wp2
  go_loopw [6, 7] (fun v i wr => ∃ k : Nat, k ≤ s.size ∧ i = .int .i64 k ∧ OwnN 37 w.heap.size wr v (frm s f (k + 1)) ∧ Below w.heap.size w wr) (fun _ i _ => s.size - (intOf i).toNat)
  case atStart => exact ⟨0, by omega, rfl, by rw [HF1.out]; exact OwnN.lit1 _ _ _ _, (Below.refl _ _).alloc (Nat.le_refl _) _⟩
  case round =>
    obtain ⟨k, hk, rfl, hown, hb⟩ := hrel
    by_cases hlt : k < s.size
    · have hlen : (frm s f (k + 1)).length = k + 1 := frm_len _ _ _
      have hlen2 : (frm s f (k + 1)).length ≤ 1000000000 := by omega
      obtain ⟨Ax, cx, rfl, _, _, _⟩ := hown.rd
      rw [hlen] at hown ⊢
      obtain ⟨g, he, _, hgl, hcn, _⟩ := hown.head (by rw [hlen]; omega)
      subst he
      have s1 := (hcn k (by rw [hlen]; omega)).2
      rw [frm_pt (by omega)] at s1
      have HX := Lib.hid (frm_snoc s f (k + 1))
      have hBs := hb.size
      have hpr := pch_rng s f k
      have h0a : (0 : Int) ≤ (k : Int) := by omega
      have h0b : (k : Int) < (k : Int) + 1 := by omega
      clear hcn hlen
      cases hq1 : ((s[k].toNat : Int) == 85)
      · cases hq2 : ((s[k].toNat : Int) == 68)
        · have HP := Lib.hid (pch_s (f := f) hlt hq1 hq2)
          go_wp2_with (at_builtin; refine app_pair rfl _ _ 32 rfl 37 Try.underlying32 (by kernel_rfl) w.heap.size _ (frm s f (k + 1)) ((k : Int) + 1) (pch s f k) hown rfl rfl hlen2 hBs ?_; intro v' w2 hown1 hb2)
          go_roundw
          case rel => exact ⟨k + 1, by omega, by go_num, by rw [HX.out, HP.out]; exact hown1, hb.trans hb2⟩
          case measure => simp [intOf]; omega
        · have HP := Lib.hid (pch_d (f := f) hlt hq1 hq2)
          go_wp2_with (at_builtin; refine app_pair rfl _ _ 32 rfl 37 Try.underlying32 (by kernel_rfl) w.heap.size _ (frm s f (k + 1)) ((k : Int) + 1) (pch s f k - 1) hown rfl rfl hlen2 hBs ?_; intro v' w2 hown1 hb2)
          go_roundw
          case rel => exact ⟨k + 1, by omega, by go_num, by rw [HX.out, HP.out]; exact hown1, hb.trans hb2⟩
          case measure => simp [intOf]; omega
      · have HP := Lib.hid (pch_u (f := f) hlt hq1)
        have hq2 : ((s[k].toNat : Int) == 68) = false := by simp at hq1 ⊢; omega
        go_wp2_with (at_builtin; refine app_pair rfl _ _ 32 rfl 37 Try.underlying32 (by kernel_rfl) w.heap.size _ (frm s f (k + 1)) ((k : Int) + 1) (pch s f k + 1) hown rfl rfl hlen2 hBs ?_; intro v' w2 hown1 hb2)
        go_roundw
        case rel => exact ⟨k + 1, by omega, by go_num, by rw [HX.out, HP.out]; exact hown1, hb.trans hb2⟩
        case measure => simp [intOf]; omega
    · obtain rfl : k = s.size := by omega
      have HLN := Lib.hid (frm_len s f (s.size + 1))
      obtain ⟨Ax, cx, rfl, _, _, hrr⟩ := hown.rd
      have HO := Lib.hid hown
      clear hown
      cases hB : tuneB (frm s f (s.size + 1))
      · have HBB := Lib.hid hB
        have HL := Lib.hid (froL_no (s := s) (f := f) (fun h => by rw [h.2.2] at hB; cases hB))
        have HQ := Lib.hid (froQ_no (s := s) (f := f) (fun h => by rw [h.2.2] at hB; cases hB))
        clear hB
        go_wp2_with fail
        refine (impl_TuneOk _ _ _ _ hrr (by rw [HLN.out]; omega)).mono ?_
        rintro e w1 ⟨rfl, hb1⟩
        rw [HBB.out]
        go_wp2
        go_ret2
        rw [HL.out, HQ.out]
        exact RetNB.mk (OwnN.nil0 _ _ _) (hb.trans (hb1.mono hb.size))
      · have HBB := Lib.hid hB
        have HL := Lib.hid (froL_yes (s := s) (f := f) ⟨HC.out, hf, hB⟩)
        have HQ := Lib.hid (froQ_yes (s := s) (f := f) ⟨HC.out, hf, hB⟩)
        clear hB
        go_wp2_with fail
        refine (impl_TuneOk _ _ _ _ hrr (by rw [HLN.out]; omega)).mono ?_
        rintro e w1 ⟨rfl, hb1⟩
        rw [HBB.out]
        go_wp2
        go_ret2
        rw [HL.out, HQ.out]
        exact RetNB.mk (HO.out.below hb1 rfl) (hb.trans (hb1.mono hb.size))
attribute [local irreducible] tm pt tuneB in
set_option maxHeartbeats 1600000 in
theorem impl_From_out (s : ByteArray) (f : Int) (w : World) (hs : s.size ≤ maxLen) (hc : okC s = true) (hf : ¬ (0 ≤ f ∧ f ≤ 60)) :
    Calls Try.prog 28 #[.string s, .int .i64 f] w (RetNB 37 w.heap.size [] false w) := by
  have hs' := hs
  unfold maxLen at hs
  have h39 : s.size ≤ 39 := by
    unfold okC at hc
    simp only [Bool.and_eq_true, decide_eq_true_eq] at hc
    exact hc.1
  have HCC := Lib.hid (show (decide (s.size ≤ 39) && cok s) = true from hc)
  have HF := Lib.hid hf
  clear hc hf
  go_enter Try.func28, Try.ntmps28
  go_wp2_with fail
  refine (impl_ContourOk _ _ hs').mono ?_
  rintro e wz ⟨rfl, rfl⟩
  rw [HCC.out]
  go_wp2
  go_loopw [6, 7] (fun v i wr => ∃ (k : Nat) (L : List (Int × Int)), k ≤ s.size ∧ i = .int .i64 k ∧ L.length = k + 1 ∧ pt L 0 = f ∧ OwnN 37 w.heap.size wr v L ∧ Below w.heap.size w wr) (fun _ i _ => s.size - (intOf i).toNat)
  case atStart => exact ⟨0, [(0, f)], by omega, rfl, rfl, by unfold pt; rfl, OwnN.lit1 _ _ _ _, (Below.refl _ _).alloc (Nat.le_refl _) _⟩
  case round =>
    obtain ⟨k, L, hk, rfl, hlen, hp0, hown, hb⟩ := hrel
    have HLN := Lib.hid hlen
    have HP0 := Lib.hid hp0
    clear hp0
    by_cases hlt : k < s.size
    · have hlen2 : L.length ≤ 1000000000 := by omega
      obtain ⟨Ax, cx, rfl, _, _, _⟩ := hown.rd
      rw [hlen] at hown ⊢
      obtain ⟨g, he, _, hgl, hcn, _⟩ := hown.head (by rw [hlen]; omega)
      subst he
      have s1 := (hcn k (by rw [hlen]; omega)).2
      have hBs := hb.size
      have h0a : (0 : Int) ≤ (k : Int) := by omega
      have h0b : (k : Int) < (k : Int) + 1 := by omega
      clear hcn hlen
      cases hq1 : ((s[k].toNat : Int) == 85)
      · cases hq2 : ((s[k].toNat : Int) == 68)
        · go_wp2_with (at_builtin; refine app_pair rfl _ _ 32 rfl 37 Try.underlying32 (by kernel_rfl) w.heap.size _ L _ _ hown rfl rfl hlen2 hBs ?_; intro v' w2 hown1 hb2)
          go_roundw
          case rel => exact ⟨k + 1, _, by omega, by go_num, by rw [List.length_append, HLN.out]; rfl, by rw [frm_first _ _ (by rw [HLN.out]; omega)]; exact HP0.out, hown1, hb.trans hb2⟩
          case measure => simp [intOf]; omega
        · go_wp2_with (at_builtin; refine app_pair rfl _ _ 32 rfl 37 Try.underlying32 (by kernel_rfl) w.heap.size _ L _ _ hown rfl rfl hlen2 hBs ?_; intro v' w2 hown1 hb2)
          go_roundw
          case rel => exact ⟨k + 1, _, by omega, by go_num, by rw [List.length_append, HLN.out]; rfl, by rw [frm_first _ _ (by rw [HLN.out]; omega)]; exact HP0.out, hown1, hb.trans hb2⟩
          case measure => simp [intOf]; omega
      · have hq2 : ((s[k].toNat : Int) == 68) = false := by simp at hq1 ⊢; omega
        go_wp2_with (at_builtin; refine app_pair rfl _ _ 32 rfl 37 Try.underlying32 (by kernel_rfl) w.heap.size _ L _ _ hown rfl rfl hlen2 hBs ?_; intro v' w2 hown1 hb2)
        go_roundw
        case rel => exact ⟨k + 1, _, by omega, by go_num, by rw [List.length_append, HLN.out]; rfl, by rw [frm_first _ _ (by rw [HLN.out]; omega)]; exact HP0.out, hown1, hb.trans hb2⟩
        case measure => simp [intOf]; omega
    · obtain rfl : k = s.size := by omega
      obtain ⟨Ax, cx, rfl, _, _, hrr⟩ := hown.rd
      have HBB := Lib.hid (tune_first (L := L) (by omega) (by rw [HP0.out]; exact HF.out))
      clear hown hlen
      go_wp2_with fail
      refine (impl_TuneOk _ _ _ _ hrr (by rw [HLN.out]; omega)).mono ?_
      rintro e w1 ⟨rfl, hb1⟩
      rw [HBB.out]
      go_wp2
      go_ret2
      exact RetNB.mk (OwnN.nil0 _ _ _) (hb.trans (hb1.mono hb.size))
theorem impl_From (s : ByteArray) (f : Int) (w : World) (hs : s.size ≤ maxLen) :
    Calls Try.prog 28 #[.string s, .int .i64 f] w (RetNB 37 w.heap.size (froL s f) (froQ s f) w) := by
  cases hc : okC s
  · have HL := Lib.hid (froL_no (s := s) (f := f) (fun h => by rw [h.1] at hc; cases hc))
    have HQ := Lib.hid (froQ_no (s := s) (f := f) (fun h => by rw [h.1] at hc; cases hc))
    have HCC := Lib.hid (show (decide (s.size ≤ 39) && cok s) = false from hc)
    clear hc
    go_enter Try.func28, Try.ntmps28
    go_wp2_with fail
    refine (impl_ContourOk _ _ hs).mono ?_
    rintro e wz ⟨rfl, rfl⟩
    rw [HCC.out]
    go_wp2
    go_ret2
    rw [HL.out, HQ.out]
    exact RetNB.mk (OwnN.nil0 _ _ _) (Below.refl _ _)
  · by_cases hf : 0 ≤ f ∧ f ≤ 60
    · exact impl_From_ok s f w hs hc hf
    · rw [froL_no (fun h => hf h.2.1), froQ_no (fun h => hf h.2.1)]
      exact impl_From_out s f w hs hc hf
end Go.Proofs.Ytkbceojeahninaa
