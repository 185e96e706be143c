/- The draw of a rhythm. -/
import Derived.Test.YtkbceojeahninaaRhyP
import Derived.Test.YtkbceojeahninaaDTune
namespace Go.Proofs.Ytkbceojeahninaa
open Go.ChangeShapes Go.WideShapes Go.ChangeAt Go.RowKit
set_option linter.unusedVariables false
theorem OwnI.keptG {e B g : Nat} {w w' : World} {v : Value} {l : List Int} (h : OwnI e B w v l) (hg : w.grownBy w' (some g)) (hgB : g < B) : OwnI e B w' v l := by
  refine World.ownsRow.kept h hg ?_
  rcases h.2 with ⟨rfl, _⟩ | ⟨k, cap, cur, rfl, hk, _⟩
  · exact .inl rfl
  · exact .inr (by simp [Value.ownBlock]; omega)
theorem sp_rhy {n s : Nat} (hs : 1 ≤ s ∧ s ≤ 96) (hn : n ≤ s) : rhy (spreadZ n s) s := by
  have hok : spreadOk n s := ⟨by omega, by omega, by omega, by omega⟩
  have e : spreadZ n s = spreadTo n s n := by unfold spreadZ; rw [if_pos hok]; rfl
  rw [e]
  have hg : ∀ i, i < n → (spreadTo n s n).getD i 0 = (((i * s) / n : Nat) : Int) := fun i hi => sp_get hi
  have hlen := spreadTo_length n s n
  have hgi : ∀ i (hi : i < (spreadTo n s n).length), (spreadTo n s n)[i] = (((i * s) / n : Nat) : Int) := fun i hi => by
    have := hg i (by omega)
    simpa [List.getD, hi] using this
  refine ⟨hs, ?_, fun x hx => ?_⟩
  · rw [List.pairwise_iff_getElem]
    intro i j hi hj hij
    rw [hgi i hi, hgi j hj]
    have hn0 : 0 < n := by omega
    have h1 : i * s / n + 1 ≤ j * s / n := by
      rw [Nat.le_div_iff_mul_le hn0, Nat.add_mul, Nat.one_mul]
      have h2 := Nat.div_mul_le_self (i * s) n
      have h3 : (i + 1) * s ≤ j * s := Nat.mul_le_mul_right s hij
      rw [Nat.add_mul, Nat.one_mul] at h3
      omega
    omega
  · obtain ⟨i, hi, rfl⟩ := List.getElem_of_mem hx
    rw [hgi i hi]
    have hn0 : 0 < n := by omega
    have h1 : i * s / n < s := by
      rw [Nat.div_lt_iff_lt_mul hn0, Nat.mul_comm s n]
      exact Nat.mul_lt_mul_of_pos_right (by omega) (by omega)
    exact ⟨Int.natCast_nonneg _, Int.ofNat_lt.2 h1⟩
def RhyR (g : Nat) (w : World) (e : Ending) (w' : World) : Prop :=
  ∃ (l : List Int) (s : Nat) (A : Option Addr) (c : Nat), rhy l s ∧ s ≤ 24 ∧ e = .returned (.tuple #[.slice A l.length c, .int .i64 s]) ∧ RdI w' A l ∧ l.length ≤ c ∧ c ≤ maxLen ∧ Cur w' g ∧ w.grownBy w' (some g)
theorem once_any (g : Nat) (w : World) (hc : Cur w g) (n : Int) (hn : 1 ≤ n) (hm : n ≤ 256) : Calls Try.prog 89 #[.pointer (some ⟨g, 0, none⟩), .int .i64 n] w fun e w' => ∃ b : Bool, e = .returned (.bool b) ∧ Cur w' g ∧ w.grownBy w' (some g) := by
  go_enter Try.func89, Try.ntmps89
  go_wp2_with (go_at_call 88; refine (below_any g _ hc n hn hm).mono ?_; rintro e w1 ⟨x, hx0, hx1, rfl, hc1, hg1⟩)
  go_ret
  exact ⟨_, rfl, hc1, hg1⟩
attribute [local irreducible] gt spreadZ in
set_option maxHeartbeats 1600000 in
theorem rhy_any (g : Nat) (w : World) (hc : Cur w g) : Calls Try.prog 51 #[.pointer (some ⟨g, 0, none⟩)] w (RhyR g w) := by
  have hgw := hc.lt
  go_enter Try.func51, Try.ntmps51
  go_wp2_with fail
  refine (below_any g w hc 21 (by omega) (by omega)).mono ?_
  rintro e w1 ⟨x, hx0, hx1, rfl, hc1, hg1⟩
  have hw1 : wrap64 (4 + x) = 4 + x := by unfold wrap64; omega
  go_wp2_with fail
  obtain ⟨s, hs⟩ : ∃ s : Nat, (s : Int) = 4 + x := ⟨(4 + x).toNat, by omega⟩
  rw [← hs]
  have hs1 : 4 ≤ s := by omega
  have hs2 : s ≤ 24 := by omega
  clear hs hw1 hx0 hx1
  refine (once_any g w1 hc1 2 (by omega) (by omega)).mono ?_
  rintro e w2 ⟨b, rfl, hc2, hg2⟩
  have hgg2 := hg1.trans hg2
  clear hc hc1 hg1 hg2
  cases b
  · have hz := (OwnI.lit0 w2 3).base_le hgg2.size
    have hbz : Below w.heap.size w2 (w2.alloc (.cells #[] 3)) := (Below.refl _ _).alloc hgg2.size _
    have hcz := hc2.belowG hgw hbz
    have hgz : w.grownBy (w2.alloc (.cells #[] 3)) (some g) := grown_bel hgg2 hbz
    go_upto_region 5 with (fail)
    generalize hW : w2.alloc _ = W at *
    clear hW hbz hc2 hgg2
    go_wp2
    go_loopw [5, 6] (fun v i wr => ∃ (L : List Int) (K : Nat), K ≤ s ∧ L.length ≤ K ∧ L.Pairwise (· < ·) ∧ (∀ x ∈ L, 0 ≤ x ∧ x < (K : Int)) ∧ i = .int .i64 K ∧ OwnI 3 w.heap.size wr v L ∧ Cur wr g ∧ w.grownBy wr (some g)) (fun _ i _ => s - (intOf i).toNat)
    case atStart => exact ⟨[], 0, by omega, by simp, List.Pairwise.nil, (fun x hx => by simp at hx), rfl, hz, hcz, hgz⟩
    case round =>
      clear hz hcz hgz
      obtain ⟨L, K, hK, hL, hP, hM, rfl, ho, hc, hg⟩ := hrel
      have HP := Lib.hid hP
      have HM := Lib.hid hM
      clear hP hM
      by_cases hlt : K < s
      · have hlt' : (K : Int) < (s : Int) := by omega
        go_wp2_with fail
        refine (once_any g _ hc 3 (by omega) (by omega)).mono ?_
        rintro e w3 ⟨b, rfl, hc3, hg3⟩
        have ho3 := ho.keptG hg3 hgw
        have hgg := hg.trans hg3
        have hsz := hgg.size
        clear hg hg3 ho hc
        cases b
        · go_wp2
          go_roundw
          case rel => exact ⟨L, K + 1, by omega, by omega, HP.out, (fun x hx => by have := HM.out x hx; omega), by go_num, ho3, hc3, hgg⟩
          case measure => simp [intOf]; omega
        · go_wp2_with (at_builtin; refine app_int rfl _ _ 24 rfl 3 Try.underlying24 (by kernel_rfl) w.heap.size _ L (K : Int) ho3 rfl rfl (by omega) hsz ?_; intro v' w4 hown1 hb4)
          have HR := Lib.hid (show (L ++ [(K : Int)]).length ≤ K + 1 ∧ (L ++ [(K : Int)]).Pairwise (· < ·) ∧ ∀ x ∈ L ++ [(K : Int)], 0 ≤ x ∧ x < ((K + 1 : Nat) : Int) by
            refine ⟨by rw [List.length_append]; simp; omega, ?_, fun x hx => ?_⟩
            · rw [List.pairwise_append]
              refine ⟨HP.out, by simp, fun x hx y hy => ?_⟩
              rw [List.mem_singleton] at hy
              subst hy
              exact (HM.out x hx).2
            · rcases List.mem_append.1 hx with h | h
              · have := HM.out x h; omega
              · rw [List.mem_singleton] at h; omega)
          first
            | exact ⟨⟨L ++ [(K : Int)], K + 1, by omega, HR.out.1, HR.out.2.1, HR.out.2.2, by go_num, hown1, hc3.belowG hgw hb4, grown_bel hgg hb4⟩, by simp [intOf]; omega⟩
            | (go_roundw
               case rel => exact ⟨L ++ [(K : Int)], K + 1, by omega, HR.out.1, HR.out.2.1, HR.out.2.2, by go_num, hown1, hc3.belowG hgw hb4, grown_bel hgg hb4⟩
               case measure => simp [intOf]; omega)
      · have hlt' : ¬ (K : Int) < (s : Int) := by omega
        obtain rfl : K = s := by omega
        obtain ⟨A, c, rfl, hlc, hcm, hrd⟩ := ho.rd
        have HF := Lib.hid (show RhyR g w (.returned (.tuple #[.slice A L.length c, .int .i64 K])) wr from ⟨L, K, A, c, ⟨by omega, HP.out, HM.out⟩, hs2, rfl, hrd, hlc, hcm, hc, hg⟩)
        clear ho hrd hc hg
        go_wp2
        go_ret2
        exact HF.out
  · have hwp : wrap64 ((s : Int) + 1) = (s : Int) + 1 := by unfold wrap64; omega
    go_wp2_with fail
    refine (below_any g w2 hc2 ((s : Int) + 1) (by omega) (by omega)).mono ?_
    rintro e w3 ⟨y, hy0, hy1, rfl, hc3, hg3⟩
    obtain ⟨n, hn⟩ : ∃ n : Nat, (n : Int) = y := ⟨y.toNat, by omega⟩
    subst hn
    have hgg := hgg2.trans hg3
    have HS := Lib.hid (sp_rhy (n := n) (s := s) (by omega) (by omega))
    clear hc2 hg3 hgg2
    go_wp2_with fail
    refine (spec_Spread (n : Int) (s : Int) w3).mono ?_
    rintro e w4 ⟨A, c, rfl, _, hlc, hcm, _, hrd, hb4⟩
    have HF := Lib.hid (show RhyR g w (.returned (.tuple #[.slice A (spreadZ (n : Int) (s : Int)).length c, .int .i64 s])) w4 from ⟨_, s, A, c, HS.out, hs2, rfl, hrd, hlc, hcm, hc3.belowG (Nat.lt_of_lt_of_le hgw hgg.size) hb4, grown_bel hgg (hb4.mono hgg.size)⟩)
    clear hrd hb4 hc3 hgg
    go_wp2
    go_ret2
    exact HF.out
def DrRhy (w : World) (e : Ending) (w' : World) : Prop :=
  ∃ (l : List Int) (s : Nat) (A : Option Addr) (c : Nat), rhy l s ∧ s ≤ 24 ∧ e = .returned (.tuple #[.slice A l.length c, .int .i64 s]) ∧ RdI w' A l ∧ l.length ≤ c ∧ c ≤ maxLen ∧ Below w.heap.size w w'
theorem draw_rhythm (w : World) (A : Option Addr) (n c : Nat) (hn : n ≤ 1048576) (hr : RdU w A n w.heap.size) : Calls Try.prog 9 #[.slice A n c] w (DrRhy w) := by
  go_enter Try.func9, Try.ntmps9
  go_wp2_with fail
  refine (new_any w A n c hn hr).mono ?_
  rintro e w1 ⟨g, hg, rfl, hc, hb⟩
  go_wp2_with fail
  refine (rhy_any g w1 hc).mono ?_
  rintro e w2 ⟨l, s, A2, c2, hT, hs, rfl, hrd, hlc, hcm, hc2, hg2⟩
  have HF := Lib.hid (show DrRhy w (.returned (.tuple #[.slice A2 l.length c2, .int .i64 s])) w2 from ⟨l, s, A2, c2, hT, hs, rfl, hrd, hlc, hcm, bel_new hb hg hg2⟩)
  clear hT hrd hc hc2 hb hg2
  go_wp2
  go_ret2
  exact HF.out
end Go.Proofs.Ytkbceojeahninaa
