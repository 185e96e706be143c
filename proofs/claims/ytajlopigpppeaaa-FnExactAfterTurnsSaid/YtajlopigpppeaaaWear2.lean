/- Marks in a wear's heights; copies of a wear. -/
import Derived.Test.YtajlopigpppeaaaWear
namespace Go.Proofs.Ytajlopigpppeaaa
open Go.ChangeShapes Go.WideShapes Go.ChangeAt Go.RowKit
set_option linter.unusedVariables false
set_option maxHeartbeats 800000 in
theorem markWear_any (e B : Nat) (A : Option Addr) (c : Nat) (l : List Int) (n k0 : Int) (w : World) (hown : OwnI e B w (.slice A l.length c) l) (hl : l.length ≤ 1000000000) (hk0 : 0 ≤ k0) (hk1 : k0 ≤ 1000000000) :
    Calls Try.prog 46 #[.agg #[.slice A l.length c, .int .i64 n], .int .i64 k0] w fun en w' => en = .returned (.int .i64 (k0 + l.length)) ∧
      ∃ L, L.length = l.length ∧ Marked k0 l.length L ∧ OwnI e B w' (.slice A l.length c) L ∧ w.grownBy w' (Value.slice A l.length c).ownBlock := by
  obtain ⟨W, hW⟩ : ∃ W, W = w.alloc (.cells #[.slice A l.length c, .int .i64 n] 56) := ⟨_, rfl⟩
  have hoW : OwnI e B W (.slice A l.length c) l := by rw [hW]; exact World.ownsRow.alloc hown _
  have hgW : w.grownBy W (Value.slice A l.length c).ownBlock := by rw [hW]; exact World.grownBy_alloc _ _ _
  have HW := Lib.hid hW
  clear hW
  go_enter Try.func46, Try.ntmps46
  go_wp2_with fail
  rw [← HW.out]
  refine (markIntS_any e B A c l k0 W hoW hl hk0 hk1).mono ?_
  rintro e w1 ⟨rfl, L, hL, hM, ho, hg⟩
  have HF := Lib.hid (And.intro hL (And.intro hM (And.intro ho (grown_trans hgW hg))))
  clear hL hM ho hg hoW hgW hown
  go_wp2
  go_ret
  exact ⟨rfl, L, HF.out.1, HF.out.2.1, HF.out.2.2.1, HF.out.2.2.2⟩
end Go.Proofs.Ytajlopigpppeaaa
