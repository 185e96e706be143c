/- Plain facts on sets of steps as natural numbers: turning a set step by step is turning its bits. No program here. -/
namespace Go.Proofs.Ytkbceojeahninaa
def rotN (s b : Nat) : Nat := ((s <<< b) &&& 4095) ||| ((s <<< b) >>> 12)
def memN (s n : Nat) : List Nat := (List.range n).filter fun j => (s >>> j) &&& 1 == 1
def rotStep (b acc j : Nat) : Nat := acc ||| 1 <<< ((j + b) % 12)
def rotI (s b : Nat) : Nat := (memN s 12).foldl (rotStep b) 0
theorem rot_eq_all : ∀ b, b < 12 → ∀ h, h < 64 → ∀ l, l < 64 → rotI (64 * h + l) b = rotN (64 * h + l) b := by decide +kernel
theorem rot_eq (s b : Nat) (hs : s < 4096) (hb : b < 12) : rotI s b = rotN s b := by
  have := rot_eq_all b hb (s / 64) (by omega) (s % 64) (by omega)
  rwa [show 64 * (s / 64) + s % 64 = s from by omega] at this
def setN (l : List Nat) : Nat := l.foldl (fun acc p => acc ||| 1 <<< (p % 12)) 0
theorem major_all : ∀ r, r < 12 → setN [r, r + 2, r + 4, r + 5, r + 7, r + 9, r + 11] = rotN 2741 r := by decide +kernel
end Go.Proofs.Ytkbceojeahninaa
