/- How many notes sound at once. -/
import Derived.Test.YtkbceojeahninaaBase
import Derived.Test.YtkbceojeahninaaIn
import Derived.Test.YtkbceojeahninaaTune
import Derived.Test.YtkbceojeahninaaRows
import Derived.Deep.QuietTactic
import Derived.BigQuiet
import Derived.Outline
namespace Go.Proofs.Ytkbceojeahninaa
open Go.ChangeShapes Go.WideShapes Go.ChangeAt Go.RowKit
set_option linter.unusedVariables false
theorem if_max (a b : Int) : max a b = if a < b then b else a := by split <;> omega
def sndP (x L T : Int) : Prop := T - L + 1 ≤ x ∧ x ≤ T
instance (x L T : Int) : Decidable (sndP x L T) := inferInstanceAs (Decidable (_ ∧ _))
def sndZ (l : List (Int × Int)) (L T : Int) : Nat → List (Int × Int)
  | 0 => []
  | k + 1 => if sndP (tm l k) L T then sndZ l L T k ++ [(tm l k, pt l k)] else sndZ l L T k
theorem sndZ_len (l : List (Int × Int)) (L T : Int) : ∀ k, (sndZ l L T k).length ≤ k
  | 0 => Nat.le_refl _
  | k + 1 => by have := sndZ_len l L T k; unfold sndZ; split <;> simp <;> omega
theorem snd_yes {l : List (Int × Int)} {L T : Int} {k : Nat} (h : sndP (tm l k) L T) : sndZ l L T (k + 1) = sndZ l L T k ++ [(tm l k, pt l k)] := if_pos h
theorem snd_no {l : List (Int × Int)} {L T : Int} {k : Nat} (h : ¬ sndP (tm l k) L T) : sndZ l L T (k + 1) = sndZ l L T k := if_neg h
def sndC (l : List (Int × Int)) (L T : Int) : Int := ((sndZ l L T l.length).length : Int)
def mosTo (l : List (Int × Int)) (L : Int) : Nat → Int
  | 0 => 0
  | k + 1 => max (mosTo l L k) (sndC l L (tm l k))
noncomputable def mosB (l : List (Int × Int)) (L : Int) : Int := if tuneB l ∧ 1 ≤ L ∧ L ≤ 100 then mosTo l L l.length else -1
theorem tm_rng {l : List (Int × Int)} (h : tuneB l = true) {k : Nat} (hk : k < l.length) : 0 ≤ tm l k ∧ tm l k ≤ 1000 := ((of_decide_eq_true h : tuneP l).1 k hk).1
theorem pt_rng {l : List (Int × Int)} (h : tuneB l = true) {k : Nat} (hk : k < l.length) : 0 ≤ pt l k ∧ pt l k ≤ 60 := ((of_decide_eq_true h : tuneP l).1 k hk).2.1
theorem rdn_alloc2 {w : World} {A : Option Addr} {l : List (Int × Int)} (h : RdN w A l) (o : Obj) : RdN (w.alloc o) A l := h.below ((Below.refl _ _).alloc (Nat.le_refl _) o) rfl
attribute [local irreducible] tm pt sndZ in
set_option maxHeartbeats 800000 in
theorem impl_sounding (A : Option Addr) (c : Nat) (l : List (Int × Int)) (T L : Int) (w : World) (hrd : RdN w A l) (hl : l.length ≤ 1000000000) (hT : 0 ≤ T ∧ T ≤ 1000) (hL : 1 ≤ L ∧ L ≤ 100) :
    Calls Try.prog 59 #[.slice A l.length c, .int .i64 T, .int .i64 L] w (RetN 37 w.heap.size (sndZ l L T l.length) w) := by
  go_enter Try.func59, Try.ntmps59
  go_wp2
  go_loopw [7, 13] (fun v i wr => ∃ k : Nat, k ≤ l.length ∧ i = .int .i64 k ∧ OwnN 37 w.heap.size wr v (sndZ l L T k) ∧ Below w.heap.size w wr) (fun _ i _ => l.length - (intOf i).toNat)
  case atStart => exact ⟨0, by omega, rfl, by rw [show sndZ l L T 0 = [] by unfold sndZ; rfl]; exact OwnN.lit0 _ _, (Below.refl _ _).alloc (Nat.le_refl _) _⟩
  case round =>
    obtain ⟨k, hk, rfl, hown, hb⟩ := hrel
    by_cases hlt : k < l.length
    · have hlen := sndZ_len l L T k
      obtain ⟨b, o, rfl, lb, hcl⟩ := hrd (by omega)
      have k1 := (hb.cell (p := ⟨b, o + k * 2, none⟩) lb).trans (hcl k hlt).1
      have k3 := (hb.cell (p := ⟨b, o + k * 2 + 1, none⟩) lb).trans (hcl k hlt).2
      have hBs : w.heap.size ≤ wr.heap.size := hb.size
      obtain ⟨W, hW⟩ : ∃ W, W = wr.alloc (Obj.cells #[.int .i64 (tm l k), .int .i64 (pt l k)] 37) := ⟨_, rfl⟩
      have hBW : Below wr.heap.size wr W := by rw [hW]; exact (Below.refl _ _).alloc (Nat.le_refl _) _
      have n1 : W.cell? ⟨wr.heap.size, 0, none⟩ = some (.int .i64 (tm l k)) := by rw [hW]; simp [go_sem]
      have n2 : W.cell? ⟨wr.heap.size, 1, none⟩ = some (.int .i64 (pt l k)) := by rw [hW]; simp [go_sem]
      have ho2 := hown.below hBW rfl
      have hbW := hb.trans (hBW.mono hBs)
      have hBs2 : w.heap.size ≤ W.heap.size := hbW.size
      have HW := Lib.hid hW
      clear hW hBW hcl hrd
      by_cases hs : sndP (tm l k) L T
      · have HY := Lib.hid (snd_yes hs)
        unfold sndP at hs
        go_wp2_with fail
        rw [← HW.out]
        refine (wi_yes _ _ _ _ hs).mono ?_
        rintro e wz ⟨rfl, rfl⟩
        go_wp2_with (at_builtin; refine app_pair rfl _ _ 32 rfl 37 Try.underlying32 (by kernel_rfl) w.heap.size _ (sndZ l L T k) (tm l k) (pt l k) ho2 rfl rfl (by omega) hBs2 ?_; intro v' w2 hown1 hb2)
        go_roundw
        case rel => exact ⟨k + 1, by omega, by go_num, by rw [HY.out]; exact hown1, hbW.trans hb2⟩
        case measure => simp [intOf]; omega
      · have HY := Lib.hid (snd_no hs)
        unfold sndP at hs
        go_wp2_with fail
        rw [← HW.out]
        refine (wi_no _ _ _ _ hs).mono ?_
        rintro e wz ⟨rfl, rfl⟩
        go_wp2
        go_roundw
        case rel => exact ⟨k + 1, by omega, by go_num, by rw [HY.out]; exact ho2, hbW⟩
        case measure => simp [intOf]; omega
    · obtain rfl : k = l.length := by omega
      go_wp2
      go_ret
      exact RetN.mk hown hb
theorem mosB_yes {l : List (Int × Int)} {L : Int} (h : tuneB l = true) (hL : 1 ≤ L ∧ L ≤ 100) : mosB l L = mosTo l L l.length := if_pos ⟨h, hL⟩
theorem mosB_no {l : List (Int × Int)} {L : Int} (h : ¬ (tuneB l = true ∧ 1 ≤ L ∧ L ≤ 100)) : mosB l L = -1 := if_neg h
theorem mos_next (l : List (Int × Int)) (L : Int) (k : Nat) : mosTo l L (k + 1) = if mosTo l L k < sndC l L (tm l k) then sndC l L (tm l k) else mosTo l L k := if_max _ _
attribute [local irreducible] tm pt sndZ mosTo in
set_option maxHeartbeats 800000 in
theorem impl_MostSounding (A : Option Addr) (c : Nat) (l : List (Int × Int)) (L : Int) (w : World) (hrd : RdN w A l) (hl : l.length ≤ 1000000000) :
    Calls Try.prog 20 #[.slice A l.length c, .int .i64 L] w fun e w' => e = .returned (.int .i64 (mosB l L)) ∧ Below w.heap.size w w' := by
  cases hB : tuneB l
  · have HV := Lib.hid (mosB_no (l := l) (L := L) (by rw [hB]; simp))
    have HB := Lib.hid hB
    clear hB
    go_enter Try.func20, Try.ntmps20
    go_wp2_with fail
    refine (impl_TuneOk _ _ _ _ hrd (by omega)).mono ?_
    rintro e w1 ⟨rfl, hb1⟩
    rw [HB.out]
    go_wp2
    go_ret
    exact ⟨ret_int HV.out.symm, hb1⟩
  · by_cases hL : 1 ≤ L ∧ L ≤ 100
    · have HV := Lib.hid (mosB_yes hB hL)
      have HB := Lib.hid hB
      have HT := Lib.hid (fun k (hk : k < l.length) => tm_rng hB hk)
      clear hB
      go_enter Try.func20, Try.ntmps20
      go_wp2_with fail
      refine (impl_TuneOk _ _ _ _ hrd (by omega)).mono ?_
      rintro e w1 ⟨rfl, hb1⟩
      rw [HB.out]
      have hr1 := hrd.below hb1 rfl
      clear hrd
      go_wp2_with (go_at_call 53; refine (wi_yes _ _ _ _ hL).mono ?_; rintro e wz ⟨rfl, rfl⟩)
      go_loopw [5, 18] (fun q i wr => ∃ k : Nat, k ≤ l.length ∧ i = .int .i64 k ∧ q = .int .i64 (mosTo l L k) ∧ Below w1.heap.size w1 wr) (fun _ i _ => l.length - (intOf i).toNat)
      case atStart => exact ⟨0, by omega, rfl, by unfold mosTo; rfl, Below.refl _ _⟩
      case round =>
        obtain ⟨k, hk, rfl, rfl, hb⟩ := hrel
        by_cases hlt : k < l.length
        · have hrr := hr1.below hb rfl
          obtain ⟨b, o, rfl, lb, hcl⟩ := hr1 (by omega)
          have k1 := (hb.cell (p := ⟨b, o + k * 2, none⟩) lb).trans (hcl k hlt).1
          have k3 := (hb.cell (p := ⟨b, o + k * 2 + 1, none⟩) lb).trans (hcl k hlt).2
          have hBs : w1.heap.size ≤ wr.heap.size := hb.size
          have HX := Lib.hid (HT.out k hlt)
          clear hcl hr1
          go_wp2_with fail
          refine (impl_sounding _ _ _ _ _ _ (rdn_alloc2 hrr _) (by omega) HX.out hL).mono ?_
          rintro e w2 ⟨A2, c2, rfl, ho, _, _, _, hr2, hb2⟩
          have hb3 : Below w1.heap.size w1 w2 := (hb.alloc hBs _).trans (hb2.mono (by simp; omega))
          clear ho hb2 hr2 hrr
          have HN := Lib.hid (mos_next l L k)
          go_wp2
          go_roundw
          case rel => exact ⟨k + 1, by omega, by go_num, by rw [HN.out]; rfl, hb3⟩
          case measure => simp [intOf]; omega
        · obtain rfl : k = l.length := by omega
          go_wp2
          go_ret
          exact ⟨ret_int HV.out.symm, hb1.trans (hb.mono hb1.size)⟩
    · have HV := Lib.hid (mosB_no (l := l) (L := L) (fun h => hL h.2))
      have HB := Lib.hid hB
      clear hB
      go_enter Try.func20, Try.ntmps20
      go_wp2_with fail
      refine (impl_TuneOk _ _ _ _ hrd (by omega)).mono ?_
      rintro e w1 ⟨rfl, hb1⟩
      rw [HB.out]
      go_wp2_with (go_at_call 53; refine (wi_no _ _ _ _ hL).mono ?_; rintro e wz ⟨rfl, rfl⟩)
      go_ret
      exact ⟨ret_int HV.out.symm, hb1⟩
def sndN (l : List (Int × Int)) (L T : Int) (k : Nat) : Int := ((sndZ l L T k).length : Int)
theorem sndN_yes {l : List (Int × Int)} {L T : Int} {k : Nat} (h : sndP (tm l k) L T) : sndN l L T (k + 1) = sndN l L T k + 1 := by unfold sndN; rw [snd_yes h]; simp
theorem sndN_no {l : List (Int × Int)} {L T : Int} {k : Nat} (h : ¬ sndP (tm l k) L T) : sndN l L T (k + 1) = sndN l L T k := by unfold sndN; rw [snd_no h]
theorem sndN_rng (l : List (Int × Int)) (L T : Int) (k : Nat) : 0 ≤ sndN l L T k ∧ sndN l L T k ≤ (k : Int) := by have := sndZ_len l L T k; unfold sndN; omega
end Go.Proofs.Ytkbceojeahninaa
