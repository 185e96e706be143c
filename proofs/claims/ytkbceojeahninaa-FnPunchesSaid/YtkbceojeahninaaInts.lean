/- What the laws ask of slices of integers: equal lists are equal, marks are set, marks are found again, a copy is a copy. -/
import Derived.Test.YtkbceojeahninaaBase
import Derived.Test.YtkbceojeahninaaRows
import Derived.Deep.QuietTactic
import Derived.BigQuiet
import Derived.Outline
namespace Go.Proofs.Ytkbceojeahninaa
open Go.ChangeShapes Go.WideShapes Go.ChangeAt Go.RowKit
set_option linter.unusedVariables false

/-- Marked: the numbers k, k + 1 and so on. -/
def Marked (k : Int) (n : Nat) (L : List Int) : Prop := ∀ i, i < n → gt L i = k + i
theorem Marked.set_ {k0 : Int} {k : Nat} {L : List Int} (h : Marked k0 k L) (hk : k < L.length) : Marked k0 (k + 1) (L.set k (k0 + k)) := by
  intro i hi
  rw [gt_set L k i _ hk]
  by_cases he : i = k
  · rw [if_pos he, he]
  · rw [if_neg he]; exact h i (by omega)

set_option maxHeartbeats 400000 in
theorem eqIntS_same (A B : Option Addr) (c d : Nat) (l : List Int) (w : World) (hA : RdI w A l) (hB : RdI w B l) (hl : l.length ≤ 1000000000) :
    Calls Try.prog 46 #[.slice A l.length c, .slice B l.length d] w fun e w' => e = .returned (.bool true) ∧ Below w.heap.size w w' := by
  go_enter Try.func46, Try.ntmps46
  go_wp2
  go_loopw [5] (fun i wr => ∃ k : Nat, k ≤ l.length ∧ i = .int .i64 k ∧ Below w.heap.size w wr) (fun i _ => l.length - (intOf i).toNat)
  case atStart => exact ⟨0, by omega, rfl, Below.refl _ _⟩
  case round =>
    obtain ⟨k, hk, rfl, hb⟩ := hrel
    by_cases hlt : k < l.length
    · obtain ⟨b1, o1, rfl, _, hc1⟩ := hA.below hb rfl (by omega)
      obtain ⟨b2, o2, rfl, _, hc2⟩ := hB.below hb rfl (by omega)
      have h1 := hc1 k hlt
      have h2 := hc2 k hlt
      clear hc1 hc2 hA hB
      go_wp2
      go_quiet (fail)
      go_wp2
      go_roundw
      case rel => exact ⟨k + 1, by omega, by go_num, bel_drewN hb _⟩
      case measure => simp [intOf]; omega
    · go_wp2
      go_ret
      exact ⟨rfl, hb⟩

set_option maxHeartbeats 400000 in
theorem markIntS_any (e B : Nat) (A : Option Addr) (c : Nat) (l : List Int) (k0 : Int) (w : World) (hown : OwnI e B w (.slice A l.length c) l) (hl : l.length ≤ 1000000000) (hk0 : 0 ≤ k0) (hk1 : k0 ≤ 1000000000) :
    Calls Try.prog 49 #[.slice A l.length c, .int .i64 k0] w fun en w' => en = .returned (.int .i64 (k0 + l.length)) ∧
      ∃ L, L.length = l.length ∧ Marked k0 l.length L ∧ OwnI e B w' (.slice A l.length c) L ∧ w.grownBy w' (Value.slice A l.length c).ownBlock := by
  go_enter Try.func49, Try.ntmps49
  go_wp2
  go_loopw [1, 5] (fun q i wr => ∃ (k : Nat) (L : List Int), k ≤ l.length ∧ i = .int .i64 k ∧ q = .int .i64 (k0 + k) ∧ L.length = l.length ∧ Marked k0 k L ∧ OwnI e B wr (.slice A l.length c) L ∧ w.grownBy wr (Value.slice A l.length c).ownBlock) (fun _ i _ => l.length - (intOf i).toNat)
  case atStart => exact ⟨0, l, by omega, rfl, by simp, rfl, fun i h => by omega, hown, World.grownBy.refl _ _⟩
  case round =>
    obtain ⟨k, L, hk, rfl, rfl, hL, hM, ho, hg⟩ := hrel
    have HL := Lib.hid hL
    by_cases hlt : k < l.length
    · obtain ⟨g, rfl, _, _, hcl, hfr⟩ := ho.head (by omega)
      have hc0 := hcl k (by omega)
      have hfz := hfr k
      have hst := ho.stored k (k0 + k)
      have HS := Lib.hid hst.1
      have HG := Lib.hid (grown_trans hg hst.2)
      clear hcl hfr hL hst ho hg hown
      go_wp2
      go_roundw
      case rel => exact ⟨k + 1, L.set k (k0 + k), by omega, by go_num, by go_num, by rw [List.length_set]; exact HL.out, hM.set_ (by rw [HL.out]; exact hlt), HS.out, HG.out⟩
      case measure => simp [intOf]; omega
    · clear hL
      go_wp2
      go_ret
      obtain rfl : k = l.length := by omega
      exact ⟨rfl, L, HL.out, hM, ho, hg⟩

set_option maxHeartbeats 400000 in
theorem heldIntS_any (A : Option Addr) (c n : Nat) (L : List Int) (k0 : Int) (w : World) (hrd : RdI w A L) (hn : L.length = n) (hM : Marked k0 n L) (hl : n ≤ 1000000000) (hk0 : 0 ≤ k0) (hk1 : k0 ≤ 1000000000) :
    Calls Try.prog 50 #[.slice A n c, .int .i64 k0] w fun en w' => en = .returned (.int .i64 (k0 + n)) ∧ w = w' := by
  subst hn
  go_enter Try.func50, Try.ntmps50
  go_wp2
  go_loop [1, 5] (fun q i => ∃ (k : Nat), k ≤ L.length ∧ i = .int .i64 k ∧ q = .int .i64 (k0 + k)) (fun _ i => L.length - (intOf i).toNat)
  case atStart => exact ⟨0, by omega, rfl, by simp⟩
  case round =>
    obtain ⟨k, hk, rfl, rfl⟩ := hrel
    by_cases hlt : k < L.length
    · obtain ⟨b1, o1, rfl, _, hc1⟩ := hrd (by omega)
      have h1 := hc1 k hlt
      rw [hM k hlt] at h1
      clear hc1 hM hrd
      go_wp2
      go_round
      case rel => exact ⟨k + 1, by omega, by go_num, by go_num⟩
      case measure => simp [intOf]; omega
    · clear hM hrd
      go_wp2
      go_ret
      obtain rfl : k = L.length := by omega
      exact ⟨rfl, rfl⟩

set_option maxHeartbeats 400000 in
theorem copyInts_any (A : Option Addr) (c : Nat) (l : List Int) (w : World) (hrd : RdI w A l) (hl : l.length ≤ 1000000000) (hA : A = none → c = 0) :
    Calls Try.prog 73 #[.slice A l.length c] w (RetI 3 w.heap.size l w) := by
  have hrd1 := fun (o : Obj) => hrd.below ((Below.refl _ _).alloc (Nat.le_refl _) o) rfl
  go_enter Try.func73, Try.ntmps73
  go_wp2_with (at_builtin; refine app_ints rfl _ _ 24 rfl 3 Try.underlying24 (by kernel_rfl) w.heap.size _ [] l A c (World.ownsRow_made _ _ _ (Nat.le_refl _) (by simp [maxLen]) rfl) (hrd1 _) rfl rfl (by simpa using hl) (by simp) hA ?_; intro v' w1 hown1 hb1)
  go_ret
  rw [List.nil_append] at hown1
  exact RetI.mk hown1 (((Below.refl _ _).alloc (Nat.le_refl _) _).trans hb1)
end Go.Proofs.Ytkbceojeahninaa
