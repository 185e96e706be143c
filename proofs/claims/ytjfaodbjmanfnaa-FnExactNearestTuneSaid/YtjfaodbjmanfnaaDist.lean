/- The distance between two tunes, and the pitches they have in common: rows made step by step. -/
import Derived.Test.YtjfaodbjmanfnaaBase
import Derived.Test.YtjfaodbjmanfnaaApp
import Derived.Test.YtjfaodbjmanfnaaSounding
import Derived.Test.YtjfaodbjmanfnaaRows
import Derived.Deep.RegionHeld3
import Derived.WalkSpells
import Derived.Deep.QuietTactic
import Derived.BigQuiet
import Derived.Outline
namespace Go.Proofs.Ytjfaodbjmanfnaa
open Go.ChangeShapes Go.WideShapes Go.ChangeAt Go.RowKit
set_option linter.unusedVariables false
/-- The list of a function's first values. -/
def lst (f : Nat → Int) (n : Nat) : List Int := (List.range n).map f
theorem lst_len (f : Nat → Int) (n : Nat) : (lst f n).length = n := by simp [lst]
theorem lst_get {f : Nat → Int} {n k : Nat} (h : k < n) : gt (lst f n) k = f k := by simp [lst, gt, h]
theorem lst_snoc (f : Nat → Int) (n : Nat) : lst f (n + 1) = lst f n ++ [f n] := by simp [lst, List.range_succ]
theorem lst_one (f : Nat → Int) : lst f 1 = [f 0] := by simp [lst, List.range_succ]
def dis (a b : List (Int × Int)) : Nat → Nat → Int
  | 0, k => (k : Int)
  | i + 1, 0 => (i : Int) + 1
  | i + 1, k + 1 => min (dis a b i k + if pt a i = pt b k then 0 else 1) (min (dis a b i (k + 1)) (dis a b (i + 1) k) + 1)
theorem dis_rng (a b : List (Int × Int)) : ∀ i k, 0 ≤ dis a b i k ∧ dis a b i k ≤ (i : Int) + k
  | 0, k => by unfold dis; omega
  | i + 1, 0 => by unfold dis; omega
  | i + 1, k + 1 => by
    have h1 := dis_rng a b i k
    have h2 := dis_rng a b i (k + 1)
    have h3 := dis_rng a b (i + 1) k
    unfold dis
    split <;> omega
def com (a b : List (Int × Int)) : Nat → Nat → Int
  | 0, _ => 0
  | _ + 1, 0 => 0
  | i + 1, k + 1 => max (max (com a b i (k + 1)) (com a b (i + 1) k)) (if pt a i = pt b k then com a b i k + 1 else 0)
theorem com_rng (a b : List (Int × Int)) : ∀ i k, 0 ≤ com a b i k ∧ com a b i k ≤ (i : Int) + k
  | 0, k => by unfold com; omega
  | i + 1, 0 => by unfold com; omega
  | i + 1, k + 1 => by
    have h1 := com_rng a b i k
    have h2 := com_rng a b i (k + 1)
    have h3 := com_rng a b (i + 1) k
    unfold com
    split <;> omega
attribute [local irreducible] lst in
theorem upTo_any (n : Nat) (w : World) (hn : n ≤ 1000000) :
    Calls Try.prog 105 #[.int .i64 n] w (RetI 3 w.heap.size (lst (fun k => (k : Int)) n) w) := by
  go_enter Try.func105, Try.ntmps105
  go_wp2
  go_loopw [3, 4] (fun v i wr => ∃ k : Nat, k ≤ n ∧ i = .int .i64 k ∧ OwnI 3 w.heap.size wr v (lst (fun k => (k : Int)) k) ∧ Below w.heap.size w wr) (fun _ i _ => n - (intOf i).toNat)
  case atStart => exact ⟨0, by omega, rfl, by rw [show lst (fun k => (k : Int)) 0 = [] by unfold lst; rfl]; exact OwnI.lit0 _ _, (Below.refl _ _).alloc (Nat.le_refl _) _⟩
  case round =>
    obtain ⟨k, hk, rfl, hown, hb⟩ := hrel
    have hBs := hb.size
    by_cases hlt : k < n
    · have HS := Lib.hid (lst_snoc (fun k => (k : Int)) k)
      have hgl : (lst (fun k => (k : Int)) k).length ≤ 1000000000 := by rw [lst_len]; omega
      go_wp2_with (at_builtin; refine app_int rfl _ _ 31 rfl 3 Try.underlying31 (by kernel_rfl) w.heap.size _ (lst (fun k => (k : Int)) k) (k : Int) hown rfl rfl hgl hBs ?_; intro v' w1 hown1 hb1)
      go_roundw
      case rel => exact ⟨k + 1, by omega, by go_num, by rw [HS.out]; exact hown1, hb.trans hb1⟩
      case measure => simp [intOf]; omega
    · go_wp2
      go_ret
      obtain rfl : k = n := by omega
      exact RetI.mk hown hb
theorem OwnI.lit1 (w : World) (e : TypeId) (x : Int) : OwnI e w.heap.size (w.alloc (.cells #[.int .i64 x] e)) (.slice (some ⟨w.heap.size, 0, none⟩) 1 1) [x] :=
  ⟨by simp [ints], .inr ⟨w.heap.size, 1, _, rfl, Nat.le_refl _, heap_alloc_new w _, Nat.le_refl _, by simp [maxLen], rfl, rfl⟩⟩
theorem cell_new (w : World) (x : Int) (e : TypeId) : (w.alloc (.cells #[.int .i64 x] e)).cell? ⟨w.heap.size, 0, none⟩ = some (.int .i64 x) := by simp [go_sem]
theorem next_kept {e B : Nat} {W w2 : World} {v v' : Value} {l : List Int} {y x : Int} {g m : Nat} (hg : v.ownBlock = some g) (hx : gt l m = x) (hm : m < l.length) (hown2 : OwnI e B w2 v' (l ++ [y]))
    (hvb : v'.ownBlock = v.ownBlock ∨ (v'.ownBlock = some W.heap.size ∧ Below W.heap.size W w2)) (hc : W.cell? ⟨g, m, none⟩ = some (.int .i64 x)) (hgl : g < W.heap.size) : w2.cell? ⟨g, m, none⟩ = some (.int .i64 x) := by
  rcases hvb with h | ⟨_, h⟩
  · obtain ⟨A, c, rfl, _, _, _⟩ := hown2.rd
    obtain ⟨g', rfl, _, _, hcl, _⟩ := hown2.head (by simp)
    rw [hg] at h
    have hgg : g' = g := by simpa [Value.ownBlock] using h
    subst hgg
    have hk := hcl m (by simp; omega)
    have hv : gt (l ++ [y]) m = x := by
      rw [← hx]; unfold gt
      simp only [List.getD_eq_getElem?_getD, List.getElem?_append_left hm]
    rw [hv] at hk
    exact hk
  · exact (h.cell (p := ⟨g, m, none⟩) hgl).trans hc
theorem dis_val (a b : List (Int × Int)) (n m : Nat) (z : Int) (hn : n ≤ 1000000) (hm : m ≤ 1000000) (hz : z = dis a b n m + if pt a n = pt b m then 0 else 1) :
    (if IntKind.i64.wrap ((if dis a b (n + 1) m < dis a b n (m + 1) then dis a b (n + 1) m else dis a b n (m + 1)) + 1) < z then IntKind.i64.wrap ((if dis a b (n + 1) m < dis a b n (m + 1) then dis a b (n + 1) m else dis a b n (m + 1)) + 1) else z) = dis a b (n + 1) (m + 1) := by
  have h1 := dis_rng a b n (m + 1)
  have h2 := dis_rng a b (n + 1) m
  have hw : IntKind.i64.wrap ((if dis a b (n + 1) m < dis a b n (m + 1) then dis a b (n + 1) m else dis a b n (m + 1)) + 1) = (if dis a b (n + 1) m < dis a b n (m + 1) then dis a b (n + 1) m else dis a b n (m + 1)) + 1 := IntWalk.i64_in _ (by split <;> omega)
  have hd : dis a b (n + 1) (m + 1) = min z (min (dis a b n (m + 1)) (dis a b (n + 1) m) + 1) := by rw [hz, dis]
  rw [hw, hd]
  clear hw hd hz
  split <;> split <;> omega
attribute [local irreducible] tm pt tuneB lst in
set_option maxHeartbeats 1600000 in
theorem spec_Dist_ok (A B : Option Addr) (c d : Nat) (a b : List (Int × Int)) (w : World) (hra : RdN w A a) (hrb : RdN w B b) (hla : a.length ≤ 1000000) (hlb : b.length ≤ 1000000) (hA : tuneB a = true) (hB : tuneB b = true) :
    Calls Try.prog 92 #[.slice A a.length c, .slice B b.length d] w fun e w' => e = .returned (.int .i64 (dis a b a.length b.length)) ∧ Below w.heap.size w w' := by
  have HA := Lib.hid hA
  have HB := Lib.hid hB
  clear hA hB
  go_enter Try.func92, Try.ntmps92
  go_wp2_with fail
  refine (spec_TuneOk _ _ _ _ hra (by omega)).mono ?_
  rintro e w1 ⟨rfl, hb1⟩
  rw [HA.out]
  go_wp2_with fail
  refine (spec_TuneOk _ _ _ _ (hrb.below hb1 rfl) (by omega)).mono ?_
  rintro e w2 ⟨rfl, hb2⟩
  rw [HB.out]
  have hb02 := hb1.trans (hb2.mono hb1.size)
  have ra := hra.below hb02 rfl
  have rb := hrb.below hb02 rfl
  clear hra hrb hb1 hb2
  go_wp2
  go_loopw [5, 6] (fun v i wr => ∃ k : Nat, k ≤ b.length + 1 ∧ i = .int .i64 k ∧ OwnI 3 w2.heap.size wr v (lst (dis a b 0) k) ∧ Below w2.heap.size w2 wr) (fun _ i _ => b.length + 1 - (intOf i).toNat)
  case atStart => exact ⟨0, by omega, rfl, by rw [show lst (dis a b 0) 0 = [] by unfold lst; rfl]; exact OwnI.lit0 _ _, (Below.refl _ _).alloc (Nat.le_refl _) _⟩
  case round =>
    obtain ⟨k, hk, rfl, hown, hb⟩ := hrel
    have hBs := hb.size
    by_cases hlt : k ≤ b.length
    · have HS := Lib.hid (show lst (dis a b 0) (k + 1) = lst (dis a b 0) k ++ [(k : Int)] by rw [lst_snoc]; unfold dis; rfl)
      have hgl : (lst (dis a b 0) k).length ≤ 1000000000 := by rw [lst_len]; omega
      go_wp2_with (at_builtin; refine app_int rfl _ _ 31 rfl 3 Try.underlying31 (by kernel_rfl) w2.heap.size _ (lst (dis a b 0) k) (k : Int) hown rfl rfl hgl hBs ?_; intro v' w3 hown1 hb3)
      go_roundw
      case rel => exact ⟨k + 1, by omega, by go_num, by rw [HS.out]; exact hown1, hb.trans hb3⟩
      case measure => simp [intOf]; omega
    · obtain rfl : k = b.length + 1 := by omega
      go_wp2
      go_loopw [5, 7] (fun v i wr => ∃ n : Nat, n ≤ a.length ∧ i = .int .i64 ((n : Int) + 1) ∧ OwnI 3 w2.heap.size wr v (lst (dis a b n) (b.length + 1)) ∧ Below w2.heap.size w2 wr) (fun _ i _ => a.length + 1 - (intOf i).toNat)
      case atStart => exact ⟨0, by omega, rfl, hown, hb⟩
      case round =>
        obtain ⟨n, hn, rfl, hrow, hbr⟩ := hrel
        by_cases hln : n < a.length
        · have HO := Lib.hid (show lst (dis a b (n + 1)) 1 = [(n : Int) + 1] by rw [lst_one]; unfold dis; rfl)
          have hBr := hbr.size
          obtain ⟨Av, cv, rfl, _, _, hrr⟩ := hrow.rd
          have hrlen : (lst (dis a b n) (b.length + 1)).length = b.length + 1 := lst_len _ _
          rw [hrlen] at hrow ⊢
          go_wp2
          go_loopw [8, 9] (fun v i wt => ∃ m : Nat, m ≤ b.length ∧ i = .int .i64 ((m : Int) + 1) ∧ OwnI 3 wr.heap.size wt v (lst (dis a b (n + 1)) (m + 1)) ∧ Below wr.heap.size wr wt) (fun _ i _ => b.length + 1 - (intOf i).toNat)
          case atStart => exact ⟨0, by omega, rfl, by rw [HO.out]; exact OwnI.lit1 _ _ _, (Below.refl _ _).alloc (Nat.le_refl _) _⟩
          case round =>
            obtain ⟨m, hm, rfl, hnx, hbt⟩ := hrel
            by_cases hlm : m < b.length
            · obtain ⟨b1, o1, rfl, l1, hc1⟩ := hrr (by rw [hrlen]; omega)
              have hbs2 := hbr.trans (hbt.mono hBr)
              have r1 := (hbt.cell (p := ⟨b1, o1 + m, none⟩) l1).trans (hc1 m (by rw [hrlen]; omega))
              have r2 := (hbt.cell (p := ⟨b1, o1 + (m + 1), none⟩) l1).trans (hc1 (m + 1) (by rw [hrlen]; omega))
              rw [lst_get (by omega)] at r1 r2
              obtain ⟨b2, o2, rfl, l2, hc2⟩ := ra (by omega)
              obtain ⟨b3, o3, rfl, l3, hc3⟩ := rb (by omega)
              have p1 := (hbs2.cell (p := ⟨b2, o2 + n * 2 + 1, none⟩) l2).trans (hc2 n hln).2
              have p2 := (hbs2.cell (p := ⟨b3, o3 + m * 2 + 1, none⟩) l3).trans (hc3 m hlm).2
              obtain ⟨Ax, cx, rfl, _, _, _⟩ := hnx.rd
              have hxlen : (lst (dis a b (n + 1)) (m + 1)).length = m + 1 := lst_len _ _
              have hx9 : (lst (dis a b (n + 1)) (m + 1)).length ≤ 1000000000 := by omega
              rw [hxlen] at hnx ⊢
              obtain ⟨g, he, _, hgl, hcn, _⟩ := hnx.head (by rw [hxlen]; omega)
              subst he
              have s1 := hcn m (by rw [hxlen]; omega)
              rw [lst_get (by omega)] at s1
              have HX := Lib.hid (lst_snoc (dis a b (n + 1)) (m + 1))
              clear hcn hxlen
              have hbT := hbt.size
              have hg1 := dis_rng a b n m
              have hg2 := dis_rng a b n (m + 1)
              have hg3 := dis_rng a b (n + 1) m
              clear hc1 hc2 hc3
              have h0a : (0 : Int) ≤ (n : Int) := by omega
              have h0b : (n : Int) < (a.length : Int) := by omega
              have h0c : (0 : Int) ≤ (m : Int) := by omega
              have h0d : (m : Int) < (b.length : Int) := by omega
              have h0e : (m : Int) + 1 < (b.length : Int) + 1 := by omega
              have h0f : (0 : Int) ≤ (m : Int) + 1 := by omega
              have HI := Lib.hid (show IntKind.i64.wrap ((n : Int) + 1 - 1) = (n : Int) by rw [show (n : Int) + 1 - 1 = (n : Int) by omega]; exact IntWalk.i64_in _ (by omega))
              have HJ := Lib.hid (show IntKind.i64.wrap ((m : Int) + 1 - 1) = (m : Int) by rw [show (m : Int) + 1 - 1 = (m : Int) by omega]; exact IntWalk.i64_in _ (by omega))
              have HK := Lib.hid (show IntKind.i64.wrap (n : Int) = (n : Int) from IntWalk.i64_in _ (by omega))
              have HL := Lib.hid (show IntKind.i64.wrap (m : Int) = (m : Int) from IntWalk.i64_in _ (by omega))
              by_cases he : pt a n = pt b m
              · go_wp2_with fail
                have q1 := HI.out
                have q2 := HJ.out
                have q3 := HK.out
                have q4 := HL.out
                go_quiet (fail)
                clear q1 q2 q3 q4
                go_wp2_with fail
                have q2 := HJ.out
                have q4 := HL.out
                have q5 := IntWalk.i64_in (min (dis a b n (m + 1)) (dis a b (n + 1) m) + 1) (by omega)
                have hv2 := fun k => hnx.below (bel_drewN (Below.refl _ _) k) rfl
                have hne : b1 ≠ g := by omega
                have mb1 : b1 < wr.heap.size := by omega
                have h0g : (m : Int) < (m : Int) + 1 := by omega
                have HV := Lib.hid (dis_val a b n m (dis a b n m) (by omega) (by omega) (by rw [if_pos he]; omega))
                have hgv := lst_get (f := dis a b (n + 1)) (n := m + 1) (k := m) (by omega)
                have hgm : m < (lst (dis a b (n + 1)) (m + 1)).length := by rw [lst_len]; omega
                have hbk := fun k (o : Obj) => (bel_drewN (Below.refl wr.heap.size wr) k).alloc (Nat.le_refl _) o
                go_region_held3 (fun w' => w'.cell? ⟨b1, o1 + (m + 1), none⟩ = some (.int .i64 (dis a b n (m + 1))) ∧ w'.cell? ⟨g, m, none⟩ = some (.int .i64 (dis a b (n + 1) m)))
                  (first | exact ⟨r2, s1⟩ | exact ⟨hgr.cell (((hbk _ _).cell mb1).trans r2) (by simpa [Value.ownBlock] using hne), next_kept (v := .slice (some ⟨g, 0, none⟩) (m + 1) cx) rfl hgv hgm hown2 hvb (((hbk _ _).cell hgl).trans s1) (Nat.lt_of_lt_of_le hgl (hbk _ _).size)⟩ | go_keep)
                  ((refine step_app_int2 (by rfl) _ _ _ (by rfl) 3 Try.underlying31 (by kernel_rfl) _ _ (lst (dis a b (n + 1)) (m + 1)) (dis a b (n + 1) (m + 1)) wr.heap.size ((hv2 _).alloc _) (by rfl) (by rfl) (by rw [HV.out]; exact cell_new _ _ _) hx9 (by simp; omega) ?_; intro v' w2 hown2 hbn hgr hvb))
                clear q2 q4 q5
                go_wp2
                all_goals
                  go_roundw
                  case rel => exact ⟨m + 1, by omega, by go_num, by rw [HX.out]; exact hown2, ((bel_drewN hbt _).alloc (by first | exact hbT | (simp; exact hbT)) _).trans hbn⟩
                  case measure => simp [intOf]; omega
              · go_wp2_with fail
                have q1 := HI.out
                have q2 := HJ.out
                have q3 := HK.out
                have q4 := HL.out
                go_quiet (fail)
                clear q1 q2 q3 q4
                go_wp2_with fail
                have q2 := HJ.out
                have q4 := HL.out
                have q5 := IntWalk.i64_in (min (dis a b n (m + 1)) (dis a b (n + 1) m) + 1) (by omega)
                have hv2 := fun k => hnx.below (bel_drewN (Below.refl _ _) k) rfl
                have hne : b1 ≠ g := by omega
                have mb1 : b1 < wr.heap.size := by omega
                have h0g : (m : Int) < (m : Int) + 1 := by omega
                have HV := Lib.hid (dis_val a b n m (dis a b n m + 1) (by omega) (by omega) (by rw [if_neg he]))
                have hgv := lst_get (f := dis a b (n + 1)) (n := m + 1) (k := m) (by omega)
                have hgm : m < (lst (dis a b (n + 1)) (m + 1)).length := by rw [lst_len]; omega
                have hbk := fun k (o : Obj) => (bel_drewN (Below.refl wr.heap.size wr) k).alloc (Nat.le_refl _) o
                go_region_held3 (fun w' => w'.cell? ⟨b1, o1 + (m + 1), none⟩ = some (.int .i64 (dis a b n (m + 1))) ∧ w'.cell? ⟨g, m, none⟩ = some (.int .i64 (dis a b (n + 1) m)))
                  (first | exact ⟨r2, s1⟩ | exact ⟨hgr.cell (((hbk _ _).cell mb1).trans r2) (by simpa [Value.ownBlock] using hne), next_kept (v := .slice (some ⟨g, 0, none⟩) (m + 1) cx) rfl hgv hgm hown2 hvb (((hbk _ _).cell hgl).trans s1) (Nat.lt_of_lt_of_le hgl (hbk _ _).size)⟩ | go_keep)
                  ((refine step_app_int2 (by rfl) _ _ _ (by rfl) 3 Try.underlying31 (by kernel_rfl) _ _ (lst (dis a b (n + 1)) (m + 1)) (dis a b (n + 1) (m + 1)) wr.heap.size ((hv2 _).alloc _) (by rfl) (by rfl) (by rw [HV.out]; exact cell_new _ _ _) hx9 (by simp; omega) ?_; intro v' w2 hown2 hbn hgr hvb))
                clear q2 q4 q5
                go_wp2
                all_goals
                  go_roundw
                  case rel => exact ⟨m + 1, by omega, by go_num, by rw [HX.out]; exact hown2, ((bel_drewN hbt _).alloc (by first | exact hbT | (simp; exact hbT)) _).trans hbn⟩
                  case measure => simp [intOf]; omega
            · obtain rfl : m = b.length := by omega
              go_wp2
              go_roundw
              case rel => exact ⟨n + 1, by omega, by go_num, hnx.base_le hBr, hbr.trans (hbt.mono hBr)⟩
              case measure => simp [intOf]; omega
        · obtain rfl : n = a.length := by omega
          obtain ⟨Av, cv, rfl, _, _, hrr⟩ := hrow.rd
          have hrlen := lst_len (dis a b a.length) (b.length + 1)
          obtain ⟨b1, o1, rfl, l1, hc1⟩ := hrr (by omega)
          have r1 := hc1 b.length (by omega)
          rw [lst_get (by omega)] at r1
          rw [hrlen]
          have h0a : (b.length : Int) < (b.length : Int) + 1 := by omega
          clear hc1 hrr hrow hrlen
          go_wp2
          go_ret
          exact ⟨rfl, hb02.trans (hbr.mono hb02.size)⟩
end Go.Proofs.Ytjfaodbjmanfnaa
