/- How many notes sound at once. -/
import Derived.Test.YtajlopigpppeaaaBase
import Derived.Test.YtajlopigpppeaaaIn
import Derived.Test.YtajlopigpppeaaaTune
import Derived.Test.YtajlopigpppeaaaRows
import Derived.Deep.QuietTactic
import Derived.BigQuiet
import Derived.Outline
namespace Go.Proofs.Ytajlopigpppeaaa
open Go.ChangeShapes Go.WideShapes Go.ChangeAt Go.RowKit
set_option linter.unusedVariables false
theorem if_max (a b : Int) : max a b = if a < b then b else a := by split <;> omega
def sndP (x L T : Int) : Prop := T - L + 1 ≤ x ∧ x ≤ T
instance (x L T : Int) : Decidable (sndP x L T) := inferInstanceAs (Decidable (_ ∧ _))
def sndZ (l : List (Int × Int)) (L T : Int) : Nat → List (Int × Int)
  | 0 => []
  | k + 1 => if sndP (tm l k) L T then sndZ l L T k ++ [(tm l k, pt l k)] else sndZ l L T k
theorem sndZ_len (l : List (Int × Int)) (L T : Int) : ∀ k, (sndZ l L T k).length ≤ k
  | 0 => Nat.le_refl _
  | k + 1 => by have := sndZ_len l L T k; unfold sndZ; split <;> simp <;> omega
theorem snd_yes {l : List (Int × Int)} {L T : Int} {k : Nat} (h : sndP (tm l k) L T) : sndZ l L T (k + 1) = sndZ l L T k ++ [(tm l k, pt l k)] := if_pos h
theorem snd_no {l : List (Int × Int)} {L T : Int} {k : Nat} (h : ¬ sndP (tm l k) L T) : sndZ l L T (k + 1) = sndZ l L T k := if_neg h
def sndC (l : List (Int × Int)) (L T : Int) : Int := ((sndZ l L T l.length).length : Int)
def mosTo (l : List (Int × Int)) (L : Int) : Nat → Int
  | 0 => 0
  | k + 1 => max (mosTo l L k) (sndC l L (tm l k))
noncomputable def mosB (l : List (Int × Int)) (L : Int) : Int := if tuneB l ∧ 1 ≤ L ∧ L ≤ 100 then mosTo l L l.length else -1
theorem tm_rng {l : List (Int × Int)} (h : tuneB l = true) {k : Nat} (hk : k < l.length) : 0 ≤ tm l k ∧ tm l k ≤ 1000 := ((of_decide_eq_true h : tuneP l).1 k hk).1
theorem pt_rng {l : List (Int × Int)} (h : tuneB l = true) {k : Nat} (hk : k < l.length) : 0 ≤ pt l k ∧ pt l k ≤ 60 := ((of_decide_eq_true h : tuneP l).1 k hk).2.1
theorem rdn_alloc2 {w : World} {A : Option Addr} {l : List (Int × Int)} (h : RdN w A l) (o : Obj) : RdN (w.alloc o) A l := h.below ((Below.refl _ _).alloc (Nat.le_refl _) o) rfl
theorem mosB_yes {l : List (Int × Int)} {L : Int} (h : tuneB l = true) (hL : 1 ≤ L ∧ L ≤ 100) : mosB l L = mosTo l L l.length := if_pos ⟨h, hL⟩
theorem mosB_no {l : List (Int × Int)} {L : Int} (h : ¬ (tuneB l = true ∧ 1 ≤ L ∧ L ≤ 100)) : mosB l L = -1 := if_neg h
theorem mos_next (l : List (Int × Int)) (L : Int) (k : Nat) : mosTo l L (k + 1) = if mosTo l L k < sndC l L (tm l k) then sndC l L (tm l k) else mosTo l L k := if_max _ _
def sndN (l : List (Int × Int)) (L T : Int) (k : Nat) : Int := ((sndZ l L T k).length : Int)
theorem sndN_yes {l : List (Int × Int)} {L T : Int} {k : Nat} (h : sndP (tm l k) L T) : sndN l L T (k + 1) = sndN l L T k + 1 := by unfold sndN; rw [snd_yes h]; simp
theorem sndN_no {l : List (Int × Int)} {L T : Int} {k : Nat} (h : ¬ sndP (tm l k) L T) : sndN l L T (k + 1) = sndN l L T k := by unfold sndN; rw [snd_no h]
theorem sndN_rng (l : List (Int × Int)) (L T : Int) (k : Nat) : 0 ≤ sndN l L T k ∧ sndN l L T k ≤ (k : Int) := by have := sndZ_len l L T k; unfold sndN; omega
end Go.Proofs.Ytajlopigpppeaaa
