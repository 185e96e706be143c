/- The draw of two tunes. -/
import Derived.Test.YtajlopigpppeaaaDTune
namespace Go.Proofs.Ytajlopigpppeaaa
open Go.ChangeShapes Go.WideShapes Go.ChangeAt Go.RowKit
set_option linter.unusedVariables false
def TwoR (w : World) (e : Ending) (w' : World) : Prop :=
  ∃ (a b : List (Int × Int)) (A B : Option Addr) (c d : Nat), drT a ∧ drT b ∧ e = .returned (.tuple #[.slice A a.length c, .slice B b.length d]) ∧ (A = none → c = 0) ∧ (B = none → d = 0) ∧ a.length ≤ c ∧ c ≤ maxLen ∧ b.length ≤ d ∧ d ≤ maxLen ∧ RdN w' A a ∧ RdN w' B b ∧ Below w.heap.size w w'
theorem own_capT {e B n c : Nat} {w : World} {A : Option Addr} {l : List (Int × Int)} (h : OwnN e B w (.slice A n c) l) : (A = none → c = 0) ∧ l.length ≤ c ∧ c ≤ maxLen := by
  rcases h.2 with ⟨h1, h2⟩ | ⟨g, cap, cur, h1, hg, hh, hnc, hm, _⟩
  · injection h1 with h3 h4 h5
    refine ⟨fun _ => h5, by omega, by rw [h5]; simp [maxLen]⟩
  · injection h1 with h3 h4 h5
    subst h5
    exact ⟨fun q => by (rw [q] at h3; cases h3), hnc, hm⟩
attribute [local irreducible] tm pt srt tuneB in
set_option maxHeartbeats 800000 in
theorem draw_two (w : World) (A : Option Addr) (n c : Nat) (hn : n ≤ 1048576) (hr : RdU w A n w.heap.size) : Calls Try.prog 30 #[.slice A n c] w (TwoR w) := by
  go_enter Try.func30, Try.ntmps30
  go_wp2_with fail
  refine (new_any w A n c hn hr).mono ?_
  rintro e w1 ⟨g, hg, rfl, hc, hb⟩
  go_wp2_with fail
  refine (tune_any g w1 hc).mono ?_
  rintro e w2 ⟨a, A2, c2, hT, rfl, ho, hrd, hc2, hg2⟩
  have hgw := hc.lt
  go_wp2_with fail
  refine (tune_any g w2 hc2).mono ?_
  rintro e w3 ⟨b, A3, c3, hT3, rfl, ho3, hrd3, hc3, hg3⟩
  have ho2 := ho.keptG hg3 hgw
  have hB : Below w.heap.size w w3 := bel_new (bel_new hb hg hg2) hg hg3
  obtain ⟨x1, x2, x3⟩ := own_capT ho
  obtain ⟨y1, y2, y3⟩ := own_capT ho3
  have HF := Lib.hid (show TwoR w (.returned (.tuple #[.slice A2 a.length c2, .slice A3 b.length c3])) w3 from ⟨a, b, A2, A3, c2, c3, hT, hT3, rfl, x1, y1, x2, x3, y2, y3, ho2.rdA, hrd3, hB⟩)
  clear ho ho3 ho2 hrd hrd3 hc hc2 hc3 hg2 hg3 hb hB x1 x2 x3 y1 y2 y3 hT hT3
  go_wp2
  go_ret2
  exact HF.out
end Go.Proofs.Ytajlopigpppeaaa
