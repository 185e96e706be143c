/- The pitches that two tunes have in common, in order: the reference's and the program's rows. -/
import Derived.Test.YtajlopigpppeaaaDist
namespace Go.Proofs.Ytajlopigpppeaaa
open Go.ChangeShapes Go.WideShapes Go.ChangeAt Go.RowKit
set_option linter.unusedVariables false
theorem lst_zero (f : Nat → Int) (h : ∀ k, f k = 0) (n : Nat) : lst f n = List.replicate n 0 := by
  unfold lst
  rw [show f = fun _ => (0 : Int) from funext h]
  rw [List.map_const', List.length_range]
theorem com_zero (a b : List (Int × Int)) (k : Nat) : com a b 0 k = 0 := by unfold com; rfl
theorem com_eq {a b : List (Int × Int)} {n m : Nat} (h : pt a n = pt b m) : com a b (n + 1) (m + 1) = max (max (com a b n (m + 1)) (com a b (n + 1) m)) (com a b n m + 1) := by rw [com, if_pos h]
theorem com_ne {a b : List (Int × Int)} {n m : Nat} (h : ¬ pt a n = pt b m) : com a b (n + 1) (m + 1) = max (com a b n (m + 1)) (com a b (n + 1) m) := by
  have h1 := com_rng a b n (m + 1)
  rw [com, if_neg h]; omega
theorem OwnI.last {e B : Nat} {w : World} {v : Value} {l : List Int} {x y : Int} (h : OwnI e B w v (l ++ [x])) (hxy : x = y) : OwnI e B w v (l ++ [y]) := hxy ▸ h
end Go.Proofs.Ytajlopigpppeaaa
