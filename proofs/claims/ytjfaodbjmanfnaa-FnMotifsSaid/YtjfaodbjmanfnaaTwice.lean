/- The draw of a tune with a part that may come again. -/
import Derived.Test.YtjfaodbjmanfnaaDTune
import Derived.Test.YtjfaodbjmanfnaaJoinS
namespace Go.Proofs.Ytjfaodbjmanfnaa
open Go.ChangeShapes Go.WideShapes Go.ChangeAt Go.RowKit
set_option linter.unusedVariables false
def twT (l : List (Int × Int)) : Prop := tuneB l = true ∧ l.length ≤ 22
theorem tw_join {l : List (Int × Int)} (h : drT l) {n : Int} (h0 : 0 ≤ n) (h1 : n ≤ 900) : twT (joiR l (latR l n)) := by
  have hT : tuneB (latL l n) = true := by
    have ha : asc (latL l n) := by
      rw [← latL_srt n h.1]; exact srt_asc _
    rw [asc_tune ha]
    · rw [latL_len]; exact decide_eq_true (by have := h.2.1; omega)
    · intro x hx
      rw [latL_map, List.mem_map] at hx
      obtain ⟨y, hy, rfl⟩ := hx
      obtain ⟨a1, a2, a3, a4⟩ := h.2.2 y hy
      exact ⟨⟨by simp only; omega, by simp only; omega⟩, ⟨by simp only; omega, by simp only; omega⟩⟩
  obtain ⟨e1, e2⟩ := lat_yes (l := l) (b := n) ⟨h.1, ⟨by omega, by omega⟩, hT⟩
  have hl := h.2.1
  have hlen := joi_len h.1 hT
  have hle := jonTo_len l (latL l n) (latL l n).length
  rw [hlen, latL_len] at hle
  obtain ⟨f1, f2⟩ := joi_yes (a := l) (b := latL l n) ⟨h.1, hT, by omega⟩
  rw [e2, f2]
  refine ⟨?_, by omega⟩
  rw [joi_tune h.1 hT]
  exact decide_eq_true (by omega)
attribute [local irreducible] tm pt srt tuneB latR latB joiR joiB in
set_option maxHeartbeats 800000 in
theorem draw_twice (w : World) (A : Option Addr) (n c : Nat) (hn : n ≤ 1048576) (hr : RdU w A n w.heap.size) : Calls Try.prog 16 #[.slice A n c] w (DrR twT w) := by
  go_enter Try.func16, Try.ntmps16
  go_wp2_with fail
  refine (new_any w A n c hn hr).mono ?_
  rintro e w1 ⟨g, hg, rfl, hc, hb⟩
  go_wp2_with fail
  refine (tune_any g w1 hc).mono ?_
  rintro e w2 ⟨l, A2, c2, hT, rfl, ho, hrd, hc2, hg2⟩
  have HT := Lib.hid hT
  have hl11 := hT.2.1
  have hA2 : A2 = none → c2 = 0 := by
    rcases ho.2 with ⟨h1, _⟩ | ⟨k, cap, cur, h1, _⟩
    · intro _; injection h1
    · intro h2; injection h1 with h3; rw [h2] at h3; cases h3
  clear hT
  go_wp2_with fail
  refine (below_any g _ hc2 4 (by omega) (by omega)).mono ?_
  rintro e w3 ⟨x, hx0, hx1, rfl, hc3, hg3⟩
  have hwx : wrap64 (16 + x) = 16 + x := by unfold wrap64; omega
  have hlw := hc2.lt
  have hB3 : Below w.heap.size w w3 := bel_new (bel_new hb hg hg2) hg hg3
  have hrd3 : RdN w3 A2 l := (ho.keptG hg3 hc.lt).rdA
  have HJ := Lib.hid (tw_join HT.out (n := 16 + x) (by omega) (by omega))
  have HL := Lib.hid (latR_len l (16 + x))
  clear hrd ho hg2 hg3 hc hc2 hc3
  go_wp2_with fail
  refine (spec_Later A2 c2 l (16 + x) w3 hrd3 (by omega) hA2).mono ?_
  rintro e w4 ⟨A4, c4, rfl, _, _, _, _, hrd4, hb4⟩
  have hB4 := hB3.trans (hb4.mono hB3.size)
  have hrd34 := hrd3.below hb4 rfl
  clear hrd3 hB3
  go_wp2_with fail
  refine (spec_Join A2 A4 c2 c4 l (latR l (16 + x)) w4 hrd34 hrd4 (by omega) (by rw [HL.out]; omega) hA2).mono ?_
  rintro e w5 ⟨A5, c5, rfl, ho5, _, _, _, _, hb5⟩
  have HO := Lib.hid (ho5.base_le hB4.size)
  have HB := Lib.hid (hB4.trans (hb5.mono hB4.size))
  clear ho5 hb5
  go_wp2
  exact bodyPost_ret (v := .slice A5 (joiR l (latR l (16 + x))).length c5) (by simp [results, Try.results16, go_sem]) rfl ⟨_, HJ.out, RetN.mk HO.out HB.out⟩
end Go.Proofs.Ytjfaodbjmanfnaa
