/- Marks held in a wear's heights. -/
import Derived.Test.YtajlopigpppeaaaWear2
import Derived.Test.YtajlopigpppeaaaInts
namespace Go.Proofs.Ytajlopigpppeaaa
open Go.ChangeShapes Go.WideShapes Go.ChangeAt Go.RowKit
set_option linter.unusedVariables false
set_option maxHeartbeats 800000 in
theorem heldWear_any (A : Option Addr) (c n : Nat) (L : List Int) (f k0 : Int) (w : World) (hrd : RdI w A L) (hn : L.length = n) (hM : Marked k0 n L) (hl : n ≤ 1000000000) (hk0 : 0 ≤ k0) (hk1 : k0 ≤ 1000000000) :
    Calls Try.prog 47 #[.agg #[.slice A n c, .int .i64 f], .int .i64 k0] w fun en w' => en = .returned (.int .i64 (k0 + (n : Int))) ∧ Below w.heap.size w w' := by
  obtain ⟨W, hW⟩ : ∃ W, W = w.alloc (.cells #[.slice A n c, .int .i64 f] 56) := ⟨_, rfl⟩
  have hbW : Below w.heap.size w W := by rw [hW]; exact (Below.refl _ _).alloc (Nat.le_refl _) _
  have hrdW := hrd.below hbW rfl
  have HW := Lib.hid hW
  clear hW hrd
  go_enter Try.func47, Try.ntmps47
  go_wp2_with fail
  rw [← HW.out]
  refine (heldIntS_any A c n L k0 W hrdW hn hM hl hk0 hk1).mono ?_
  rintro e w1 ⟨rfl, rfl⟩
  clear hn hM
  go_wp2
  go_ret
  exact ⟨rfl, hbW⟩
end Go.Proofs.Ytajlopigpppeaaa
