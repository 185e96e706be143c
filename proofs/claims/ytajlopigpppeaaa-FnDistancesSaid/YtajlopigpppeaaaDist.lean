/- The distance between two tunes, and the pitches they have in common: rows made step by step. -/
import Derived.Test.YtajlopigpppeaaaBase
import Derived.Test.YtajlopigpppeaaaApp
import Derived.Test.YtajlopigpppeaaaSounding
import Derived.Test.YtajlopigpppeaaaRows
import Derived.Deep.RegionHeld3
import Derived.WalkSpells
import Derived.Deep.QuietTactic
import Derived.BigQuiet
import Derived.Outline
namespace Go.Proofs.Ytajlopigpppeaaa
open Go.ChangeShapes Go.WideShapes Go.ChangeAt Go.RowKit
set_option linter.unusedVariables false
/-- The list of a function's first values. -/
def lst (f : Nat → Int) (n : Nat) : List Int := (List.range n).map f
theorem lst_len (f : Nat → Int) (n : Nat) : (lst f n).length = n := by simp [lst]
theorem lst_get {f : Nat → Int} {n k : Nat} (h : k < n) : gt (lst f n) k = f k := by simp [lst, gt, h]
theorem lst_snoc (f : Nat → Int) (n : Nat) : lst f (n + 1) = lst f n ++ [f n] := by simp [lst, List.range_succ]
theorem lst_one (f : Nat → Int) : lst f 1 = [f 0] := by simp [lst, List.range_succ]
def dis (a b : List (Int × Int)) : Nat → Nat → Int
  | 0, k => (k : Int)
  | i + 1, 0 => (i : Int) + 1
  | i + 1, k + 1 => min (dis a b i k + if pt a i = pt b k then 0 else 1) (min (dis a b i (k + 1)) (dis a b (i + 1) k) + 1)
theorem dis_rng (a b : List (Int × Int)) : ∀ i k, 0 ≤ dis a b i k ∧ dis a b i k ≤ (i : Int) + k
  | 0, k => by unfold dis; omega
  | i + 1, 0 => by unfold dis; omega
  | i + 1, k + 1 => by
    have h1 := dis_rng a b i k
    have h2 := dis_rng a b i (k + 1)
    have h3 := dis_rng a b (i + 1) k
    unfold dis
    split <;> omega
def com (a b : List (Int × Int)) : Nat → Nat → Int
  | 0, _ => 0
  | _ + 1, 0 => 0
  | i + 1, k + 1 => max (max (com a b i (k + 1)) (com a b (i + 1) k)) (if pt a i = pt b k then com a b i k + 1 else 0)
theorem com_rng (a b : List (Int × Int)) : ∀ i k, 0 ≤ com a b i k ∧ com a b i k ≤ (i : Int) + k
  | 0, k => by unfold com; omega
  | i + 1, 0 => by unfold com; omega
  | i + 1, k + 1 => by
    have h1 := com_rng a b i k
    have h2 := com_rng a b i (k + 1)
    have h3 := com_rng a b (i + 1) k
    unfold com
    split <;> omega
attribute [local irreducible] lst in
theorem upTo_any (n : Nat) (w : World) (hn : n ≤ 1000000) :
    Calls Try.prog 70 #[.int .i64 n] w (RetI 3 w.heap.size (lst (fun k => (k : Int)) n) w) := by
  go_enter Try.func70, Try.ntmps70
  go_wp2
  go_loopw [3, 4] (fun v i wr => ∃ k : Nat, k ≤ n ∧ i = .int .i64 k ∧ OwnI 3 w.heap.size wr v (lst (fun k => (k : Int)) k) ∧ Below w.heap.size w wr) (fun _ i _ => n - (intOf i).toNat)
  case atStart => exact ⟨0, by omega, rfl, by rw [show lst (fun k => (k : Int)) 0 = [] by unfold lst; rfl]; exact OwnI.lit0 _ _, (Below.refl _ _).alloc (Nat.le_refl _) _⟩
  case round =>
    obtain ⟨k, hk, rfl, hown, hb⟩ := hrel
    have hBs := hb.size
    by_cases hlt : k < n
    · have HS := Lib.hid (lst_snoc (fun k => (k : Int)) k)
      have hgl : (lst (fun k => (k : Int)) k).length ≤ 1000000000 := by rw [lst_len]; omega
      go_wp2_with (at_builtin; refine app_int rfl _ _ 24 rfl 3 Try.underlying24 (by kernel_rfl) w.heap.size _ (lst (fun k => (k : Int)) k) (k : Int) hown rfl rfl hgl hBs ?_; intro v' w1 hown1 hb1)
      go_roundw
      case rel => exact ⟨k + 1, by omega, by go_num, by rw [HS.out]; exact hown1, hb.trans hb1⟩
      case measure => simp [intOf]; omega
    · go_wp2
      go_ret
      obtain rfl : k = n := by omega
      exact RetI.mk hown hb
theorem OwnI.lit1 (w : World) (e : TypeId) (x : Int) : OwnI e w.heap.size (w.alloc (.cells #[.int .i64 x] e)) (.slice (some ⟨w.heap.size, 0, none⟩) 1 1) [x] :=
  ⟨by simp [ints], .inr ⟨w.heap.size, 1, _, rfl, Nat.le_refl _, heap_alloc_new w _, Nat.le_refl _, by simp [maxLen], rfl, rfl⟩⟩
theorem cell_new (w : World) (x : Int) (e : TypeId) : (w.alloc (.cells #[.int .i64 x] e)).cell? ⟨w.heap.size, 0, none⟩ = some (.int .i64 x) := by simp [go_sem]
theorem next_kept {e B : Nat} {W w2 : World} {v v' : Value} {l : List Int} {y x : Int} {g m : Nat} (hg : v.ownBlock = some g) (hx : gt l m = x) (hm : m < l.length) (hown2 : OwnI e B w2 v' (l ++ [y]))
    (hvb : v'.ownBlock = v.ownBlock ∨ (v'.ownBlock = some W.heap.size ∧ Below W.heap.size W w2)) (hc : W.cell? ⟨g, m, none⟩ = some (.int .i64 x)) (hgl : g < W.heap.size) : w2.cell? ⟨g, m, none⟩ = some (.int .i64 x) := by
  rcases hvb with h | ⟨_, h⟩
  · obtain ⟨A, c, rfl, _, _, _⟩ := hown2.rd
    obtain ⟨g', rfl, _, _, hcl, _⟩ := hown2.head (by simp)
    rw [hg] at h
    have hgg : g' = g := by simpa [Value.ownBlock] using h
    subst hgg
    have hk := hcl m (by simp; omega)
    have hv : gt (l ++ [y]) m = x := by
      rw [← hx]; unfold gt
      simp only [List.getD_eq_getElem?_getD, List.getElem?_append_left hm]
    rw [hv] at hk
    exact hk
  · exact (h.cell (p := ⟨g, m, none⟩) hgl).trans hc
theorem dis_val (a b : List (Int × Int)) (n m : Nat) (z : Int) (hn : n ≤ 1000000) (hm : m ≤ 1000000) (hz : z = dis a b n m + if pt a n = pt b m then 0 else 1) :
    (if IntKind.i64.wrap ((if dis a b (n + 1) m < dis a b n (m + 1) then dis a b (n + 1) m else dis a b n (m + 1)) + 1) < z then IntKind.i64.wrap ((if dis a b (n + 1) m < dis a b n (m + 1) then dis a b (n + 1) m else dis a b n (m + 1)) + 1) else z) = dis a b (n + 1) (m + 1) := by
  have h1 := dis_rng a b n (m + 1)
  have h2 := dis_rng a b (n + 1) m
  have hw : IntKind.i64.wrap ((if dis a b (n + 1) m < dis a b n (m + 1) then dis a b (n + 1) m else dis a b n (m + 1)) + 1) = (if dis a b (n + 1) m < dis a b n (m + 1) then dis a b (n + 1) m else dis a b n (m + 1)) + 1 := IntWalk.i64_in _ (by split <;> omega)
  have hd : dis a b (n + 1) (m + 1) = min z (min (dis a b n (m + 1)) (dis a b (n + 1) m) + 1) := by rw [hz, dis]
  rw [hw, hd]
  clear hw hd hz
  split <;> split <;> omega
end Go.Proofs.Ytajlopigpppeaaa
