/- What the laws ask of slices of pins: copies, equal lists, marks. -/
import Derived.Test.YtkbceojeahninaaNotes
import Derived.Test.YtkbceojeahninaaRows
import Derived.Deep.QuietTactic
import Derived.BigQuiet
import Derived.Deep.RegionHeld3
import Derived.Outline
namespace Go.Proofs.Ytkbceojeahninaa
open Go.ChangeShapes Go.WideShapes Go.ChangeAt Go.RowKit
set_option linter.unusedVariables false
theorem toPin_any (x y : Int) (w : World) : Calls Try.prog 105 #[.agg #[.int .i64 x, .int .i64 y]] w fun e w' => e = .returned (.agg #[.int .i64 x, .int .i64 y]) ∧ Below w.heap.size w w' := by
  go_enter Try.func105, Try.ntmps105
  go_wp2
  refine bodyPost_ret (v := .agg #[.int .i64 x, .int .i64 y]) (by simp [results, Try.results105, go_sem]) rfl ⟨rfl, ?_⟩
  (repeat (refine Below.alloc ?_ (by first | omega | (simp; done) | (simp; omega)) _))
  exact Below.refl _ _
set_option maxHeartbeats 400000 in
theorem toPinS_any (A : Option Addr) (c : Nat) (l : List (Int × Int)) (w : World) (hrd : RdN w A l) (hl : l.length ≤ 1000000000) :
    Calls Try.prog 85 #[.slice A l.length c] w (RetN 65 w.heap.size l w) := by
  go_enter Try.func85, Try.ntmps85
  go_wp2_with (at_make; refine make_pairs rfl _ _ 54 rfl 65 Try.underlying54 (by kernel_rfl) w.heap.size l.length rfl rfl hl (Nat.le_refl _) ?_; intro w1 hown hb1 hz1)
  go_loopw [4] (fun i wr => ∃ (k : Nat) (L : List (Int × Int)), k ≤ l.length ∧ i = .int .i64 k ∧ L.length = l.length ∧ (∀ j, j < k → tm L j = tm l j ∧ pt L j = pt l j) ∧ OwnN 65 w.heap.size wr (.slice (some ⟨w.heap.size, 0, none⟩) l.length l.length) L ∧ Below w.heap.size w wr) (fun i _ => l.length - (intOf i).toNat)
  case atStart => exact ⟨0, _, by omega, rfl, List.length_replicate, fun j h => by omega, hown, hb1⟩
  case round =>
    clear hown
    obtain ⟨k, L, hk, rfl, hL, hM, ho, hb⟩ := hrel
    have HL := Lib.hid hL
    have HM := Lib.hid hM
    by_cases hlt : k < l.length
    · obtain ⟨b, off, rfl, hbl, hcl⟩ := hrd (by omega)
      have c1 := (hb.cell (p := ⟨b, off + k * 2, none⟩) hbl).trans (hcl k hlt).1
      have c2 := (hb.cell (p := ⟨b, off + k * 2 + 1, none⟩) hbl).trans (hcl k hlt).2
      clear hcl hL hM
      go_wp2_with fail
      refine (toPin_any _ _ _).mono ?_
      rintro e w2 ⟨rfl, hb2⟩
      have ho2 := ho.below hb2 rfl
      have hb02 := hb.trans (hb2.mono hb.size)
      obtain ⟨g, he, _, hgl, hcg, hfg⟩ := ho2.head (by rw [HL.out]; omega)
      injection he with he
      injection he with he
      subst he
      have k1 := (hcg k (by rw [HL.out]; omega)).1
      have k2 := (hcg k (by rw [HL.out]; omega)).2
      have f1 := hfg (k * 2)
      have f2 := hfg (k * 2 + 1)
      have hst := ho2.stored k (tm l k) (pt l k)
      have HS := Lib.hid hst.1
      have HB := Lib.hid (hb02.trans (grown_Below hst.2 hb02.size (fun q hq => by injection hq with hq; omega)))
      clear hcg hfg hst ho ho2 hb hb2 hb02 hrd c1 c2
      go_wp2
      go_roundw
      case rel =>
        refine ⟨k + 1, _, by omega, by go_num, by rw [List.length_set]; exact HL.out, fun j hj => ?_, HS.out, HB.out⟩
        rw [tm_set _ _ _ _ (by rw [HL.out]; exact hlt), pt_set _ _ _ _ (by rw [HL.out]; exact hlt)]
        by_cases he : j = k
        · rw [if_pos he, if_pos he, he]; exact ⟨rfl, rfl⟩
        · rw [if_neg he, if_neg he]; exact HM.out j (by omega)
      case measure => simp [intOf]; omega
    · clear hL hM
      go_wp2
      go_ret
      obtain rfl : k = l.length := by omega
      rw [ext_pair HL.out HM.out] at ho
      exact RetN.mk ho hb
theorem eqPin_same (x y : Int) (w : World) : Calls Try.prog 106 #[.agg #[.int .i64 x, .int .i64 y], .agg #[.int .i64 x, .int .i64 y]] w fun e w' => e = .returned (.bool true) ∧ Below w.heap.size w w' := by
  go_enter Try.func106, Try.ntmps106
  go_wp2
  go_ret
  refine ⟨rfl, ?_⟩
  (repeat (refine Below.alloc ?_ (by first | omega | (simp; done) | (simp; omega)) _))
  exact Below.refl _ _
set_option maxHeartbeats 400000 in
theorem eqPinS_same (A B : Option Addr) (c d : Nat) (l : List (Int × Int)) (w : World) (hA : RdN w A l) (hB : RdN w B l) (hl : l.length ≤ 1000000000) :
    Calls Try.prog 86 #[.slice A l.length c, .slice B l.length d] w fun e w' => e = .returned (.bool true) ∧ Below w.heap.size w w' := by
  go_enter Try.func86, Try.ntmps86
  go_wp2
  go_loopw [5] (fun i wr => ∃ k : Nat, k ≤ l.length ∧ i = .int .i64 k ∧ Below w.heap.size w wr) (fun i _ => l.length - (intOf i).toNat)
  case atStart => exact ⟨0, by omega, rfl, Below.refl _ _⟩
  case round =>
    obtain ⟨k, hk, rfl, hb⟩ := hrel
    by_cases hlt : k < l.length
    · obtain ⟨b1, o1, rfl, l1, hc1⟩ := hA (by omega)
      obtain ⟨b2, o2, rfl, l2, hc2⟩ := hB (by omega)
      have k1 := (hb.cell (p := ⟨b1, o1 + k * 2, none⟩) l1).trans (hc1 k hlt).1
      have k2 := (hb.cell (p := ⟨b1, o1 + k * 2 + 1, none⟩) l1).trans (hc1 k hlt).2
      have k3 := (hb.cell (p := ⟨b2, o2 + k * 2, none⟩) l2).trans (hc2 k hlt).1
      have k4 := (hb.cell (p := ⟨b2, o2 + k * 2 + 1, none⟩) l2).trans (hc2 k hlt).2
      have m1 : b1 < wr.heap.size := Nat.lt_of_lt_of_le l1 hb.size
      have m2 : b2 < wr.heap.size := Nat.lt_of_lt_of_le l2 hb.size
      clear hc1 hc2 hA hB
      go_wp2_with fail
      go_region_held3 (fun w' => w'.cell? ⟨b1, o1 + k * 2, none⟩ = some (.int .i64 (tm l k)) ∧ w'.cell? ⟨b1, o1 + k * 2 + 1, none⟩ = some (.int .i64 (pt l k)) ∧ w'.cell? ⟨b2, o2 + k * 2, none⟩ = some (.int .i64 (tm l k)) ∧ w'.cell? ⟨b2, o2 + k * 2 + 1, none⟩ = some (.int .i64 (pt l k)) ∧ Below wr.heap.size wr w') (first | exact heldA_start k1 k2 k3 k4 rfl | exact heldA_keep m1 m1 m2 m2 (by assumption) hbz)
        (first | (go_at_call 106; refine (eqPin_same _ _ _).mono ?_; rintro e wz ⟨rfl, hbz⟩))
      rename_i hH
      have hb2 := hb.trans ((heldA_bel hH).mono hb.size)
      go_wp2
      go_roundw
      case rel => exact ⟨k + 1, by omega, by go_num, hb2⟩
      case measure => simp [intOf]; omega
    · go_wp2
      go_ret
      exact ⟨rfl, hb⟩
set_option maxHeartbeats 400000 in
theorem markPinS_any (e B : Nat) (A : Option Addr) (c : Nat) (l : List (Int × Int)) (k0 : Int) (w : World) (hown : OwnN e B w (.slice A l.length c) l) (hl : l.length ≤ 1000000000) (hk0 : 0 ≤ k0) (hk1 : k0 ≤ 1000000000) :
    Calls Try.prog 87 #[.slice A l.length c, .int .i64 k0] w fun en w' => en = .returned (.int .i64 (k0 + 2 * l.length)) ∧
      ∃ L, L.length = l.length ∧ MarkedN k0 l.length L ∧ OwnN e B w' (.slice A l.length c) L ∧ w.grownBy w' (Value.slice A l.length c).ownBlock := by
  go_enter Try.func87, Try.ntmps87
  go_wp2
  go_loopw [1, 5] (fun q i wr => ∃ (k : Nat) (L : List (Int × Int)), k ≤ l.length ∧ i = .int .i64 k ∧ q = .int .i64 (k0 + 2 * (k : Int)) ∧ L.length = l.length ∧ MarkedN k0 k L ∧ OwnN e B wr (.slice A l.length c) L ∧ w.grownBy wr (Value.slice A l.length c).ownBlock) (fun _ i _ => l.length - (intOf i).toNat)
  case atStart => exact ⟨0, l, by omega, rfl, by simp, rfl, fun i h => by omega, hown, World.grownBy.refl _ _⟩
  case round =>
    obtain ⟨k, L, hk, rfl, rfl, hL, hM, ho, hg⟩ := hrel
    have HL := Lib.hid hL
    by_cases hlt : k < l.length
    · obtain ⟨g, he, _, hgl, hcl, hfr⟩ := ho.head (by omega)
      subst he
      have k1 := (hcl k (by omega)).1
      have k2 := (hcl k (by omega)).2
      have f1 := hfr (k * 2)
      have f2 := hfr (k * 2 + 1)
      have hst := ho.stored k (k0 + 2 * (k : Int)) (k0 + 2 * (k : Int) + 1)
      have HS := Lib.hid hst.1
      have HG := Lib.hid (grown_trans hg hst.2)
      clear hcl hfr hL hst ho hg hown
      go_wp2
      go_roundw
      case rel => exact ⟨k + 1, L.set k (k0 + 2 * (k : Int), k0 + 2 * (k : Int) + 1), by omega, by go_num, by go_num, by rw [List.length_set]; exact HL.out, hM.set_ (by rw [HL.out]; exact hlt), HS.out, HG.out⟩
      case measure => simp [intOf]; omega
    · clear hL
      go_wp2
      go_ret
      obtain rfl : k = l.length := by omega
      exact ⟨rfl, L, HL.out, hM, ho, hg⟩
end Go.Proofs.Ytkbceojeahninaa
