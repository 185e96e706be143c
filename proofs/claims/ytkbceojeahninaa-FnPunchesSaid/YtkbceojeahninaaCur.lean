/- The cursor of a draw: a byte, a number below n. -/
import Derived.Test.YtkbceojeahninaaBase
import Derived.Test.YtkbceojeahninaaRows
import Derived.Deep.QuietTactic
import Derived.BigQuiet
import Derived.Deep.Cut
import Derived.IntWalk
import Derived.RegionTactic
import Derived.RangeFuncBox
import Derived.Maps.AppendAt
import Derived.Laws.BitsAllLaws
import Derived.Laws.BitsLemmas
namespace Go.Proofs.Ytkbceojeahninaa
open Go.ChangeShapes Go.WideShapes Go.ChangeAt Go.RowKit
set_option linter.unusedVariables false
/-- Bytes that lie below block N. -/
def RdU (w : World) (A : Option Addr) (n N : Nat) : Prop := 0 < n → ∃ b off, A = some ⟨b, off, none⟩ ∧ b < N ∧ ∀ j, j < n → ∃ u : Int, w.cell? ⟨b, off + j, none⟩ = some (.int .u8 u) ∧ 0 ≤ u ∧ u ≤ 255
def CurC (w : World) (g : Nat) (A : Option Addr) (n c i : Nat) (h : Int) : Prop :=
  w.cell? ⟨g, 0, none⟩ = some (.slice A n c) ∧ w.cell? ⟨g, 1, none⟩ = some (.int .i64 i) ∧ w.cell? ⟨g, 2, none⟩ = some (.int .i64 h) ∧ w.frozen? ⟨g, 1, none⟩ = false ∧ w.frozen? ⟨g, 2, none⟩ = false ∧ i ≤ n ∧ n ≤ 1048576 ∧ RdU w A n g ∧ g < w.heap.size
def Cur (w : World) (g : Nat) : Prop := ∃ A n c i h, CurC w g A n c i h
def ByteR (g : Nat) (w : World) (e : Ending) (w' : World) : Prop := ∃ x : Int, 0 ≤ x ∧ x ≤ 255 ∧ e = .returned (.int .i64 x) ∧ Cur w' g ∧ w.grownBy w' (some g)
theorem grown_set (w : World) (g o : Nat) (v : Value) : w.grownBy (w.setCell ⟨g, o, none⟩ v) (some g) := ⟨rfl, rfl, rfl, (by simp), fun k _ hk => RowKit.Below.heap_setCell _ _ _ k (fun e => hk (by rw [e]))⟩
theorem and255 (x : Int) : 0 ≤ bits .and .i64 x 255 ∧ bits .and .i64 x 255 ≤ 255 := by
  have h : (BitVec.ofInt 64 x &&& BitVec.ofInt 64 255).toNat ≤ 255 := by
    rw [BitVec.toNat_and]
    exact Nat.and_le_right
  show 0 ≤ IntKind.i64.wrap ((BitVec.ofInt 64 x &&& BitVec.ofInt 64 255).toNat : Int) ∧ IntKind.i64.wrap ((BitVec.ofInt 64 x &&& BitVec.ofInt 64 255).toNat : Int) ≤ 255
  rw [IntKind.wrap_i64]
  omega
theorem RdU.kept {w w' : World} {A : Option Addr} {n g : Nat} (hr : RdU w A n g) (hg : w.grownBy w' (some g)) : RdU w' A n g := by
  intro h
  obtain ⟨b, o, rfl, hb, hc⟩ := hr h
  refine ⟨b, o, rfl, hb, fun j hj => ?_⟩
  obtain ⟨u, hu, r⟩ := hc j hj
  exact ⟨u, hg.cell hu (by simp; omega), r⟩
theorem RdU.below {B : Nat} {w w' : World} {A : Option Addr} {n g : Nat} (hr : RdU w A n g) (hb : Below B w w') (hB : B = w.heap.size) : RdU w' A n g := by
  intro h
  obtain ⟨b, o, rfl, hbg, hc⟩ := hr h
  refine ⟨b, o, rfl, hbg, fun j hj => ?_⟩
  obtain ⟨u, hu, r⟩ := hc j hj
  exact ⟨u, by rw [hb.cell (by rw [hB]; exact cell_lt hu)]; exact hu, r⟩
theorem Cur.below {B : Nat} {w w' : World} {g : Nat} (h : Cur w g) (hb : Below B w w') (hB : B = w.heap.size) : Cur w' g := by
  obtain ⟨A, n, c, i, h, k0, k1, k2, f1, f2, hi, hn, hr, hl⟩ := h
  exact ⟨A, n, c, i, h, by rw [hb.cell (by rw [hB]; exact hl)]; exact k0, by rw [hb.cell (by rw [hB]; exact hl)]; exact k1, by rw [hb.cell (by rw [hB]; exact hl)]; exact k2, by rw [hb.frozen (by rw [hB]; exact hl)]; exact f1, by rw [hb.frozen (by rw [hB]; exact hl)]; exact f2, hi, hn, hr.below hb hB, Nat.lt_of_lt_of_le hl hb.size⟩
theorem Cur.lt {w : World} {g : Nat} (h : Cur w g) : g < w.heap.size := by
  obtain ⟨_, _, _, _, _, _, _, _, _, _, _, _, _, hl⟩ := h
  exact hl
set_option maxHeartbeats 800000 in
theorem byte_any (g : Nat) (w : World) (hc : Cur w g) : Calls Try.prog 107 #[.pointer (some ⟨g, 0, none⟩)] w (ByteR g w) := by
  obtain ⟨A, n, c, i, h, k0, k1, k2, f1, f2, hi, hn, hb, hg⟩ := hc
  by_cases hlt : i < n
  · obtain ⟨b, o, rfl, hbg, hcl⟩ := hb (by omega)
    obtain ⟨u, hu, hu0, hu1⟩ := hcl i hlt
    have h0a : (0 : Int) ≤ (i : Int) := by omega
    have h0b : (i : Int) < (n : Int) := by omega
    have hne : b ≠ g := by omega
    go_enter Try.func107, Try.ntmps107
    go_upto_region 2 with (fail)
    generalize hV : (w.setCell _ _) = V
    have hgV : w.grownBy V (some g) := by rw [← hV]; exact grown_set w g _ _
    have hx : ∃ h', V.cell? ⟨g, 2, none⟩ = some (.int .i64 h') := ⟨wrap64 (wrap64 (h * 6364136223846793005) + 1442695040888963407), by rw [← hV]; simp [go_sem, k2]⟩
    have v0 : V.cell? ⟨g, 0, none⟩ = some (.slice (some ⟨b, o, none⟩) n c) := by rw [← hV]; simp [go_sem, k0]
    have v1 : V.cell? ⟨g, 1, none⟩ = some (.int .i64 i) := by rw [← hV]; simp [go_sem, k1]
    have vf1 : V.frozen? ⟨g, 1, none⟩ = false := by rw [← hV]; simp [go_sem, f1]
    have vf2 : V.frozen? ⟨g, 2, none⟩ = false := by rw [← hV]; simp [go_sem, f2]
    have vs : V.heap.size = w.heap.size := by rw [← hV]; simp
    have vu : V.cell? ⟨b, o + i, none⟩ = some (.int .u8 u) := hgV.cell hu (by simpa using hne)
    obtain ⟨h', v2⟩ := hx
    clear hV k0 k1 k2 f1 f2 hu
    go_quiet (fail)
    have hq := and255 (bits .xor .i64 (h' / 8589934592) (h' / 35184372088832))
    generalize hX : bits .and .i64 (bits .xor .i64 (h' / 8589934592) (h' / 35184372088832)) 255 = X at *
    have w1 := and255 (X + u)
    have hwr : IntKind.i64.wrap (X + u) = X + u := by rw [IntKind.wrap_i64]; omega
    have hwi : wrap64 ((i : Int) + 1) = ((i + 1 : Nat) : Int) := by unfold wrap64; omega
    go_wp2_with (go_quiet (fail))
    refine bodyPost_ret (v := .int .i64 (bits .and .i64 (X + u) 255)) (by simp [results, Try.results107, go_sem]) rfl ⟨_, w1.1, w1.2, rfl, ?_, ?_⟩
    · refine ⟨some ⟨b, o, none⟩, n, c, i + 1, h', by simp [go_sem, v0], by simp [go_sem, v1], by simp [go_sem, v2], by simp [go_sem, vf1], by simp [go_sem, vf2], hlt, hn, ?_, by simp [vs]; exact hg⟩
      exact hb.kept ((grown_drewN hgV _).trans (grown_set _ g _ _))
    · exact (grown_drewN hgV _).trans (grown_set _ g _ _)
  · have h0a : ¬ (i : Int) < (n : Int) := by omega
    go_enter Try.func107, Try.ntmps107
    go_upto_region 2 with (fail)
    generalize hV : (w.setCell _ _) = V
    have hgV : w.grownBy V (some g) := by rw [← hV]; exact grown_set w g _ _
    have hx : ∃ h', V.cell? ⟨g, 2, none⟩ = some (.int .i64 h') := ⟨wrap64 (wrap64 (h * 6364136223846793005) + 1442695040888963407), by rw [← hV]; simp [go_sem, k2]⟩
    have v0 : V.cell? ⟨g, 0, none⟩ = some (.slice A n c) := by rw [← hV]; simp [go_sem, k0]
    have v1 : V.cell? ⟨g, 1, none⟩ = some (.int .i64 i) := by rw [← hV]; simp [go_sem, k1]
    have vf1 : V.frozen? ⟨g, 1, none⟩ = false := by rw [← hV]; simp [go_sem, f1]
    have vf2 : V.frozen? ⟨g, 2, none⟩ = false := by rw [← hV]; simp [go_sem, f2]
    have vs : V.heap.size = w.heap.size := by rw [← hV]; simp
    obtain ⟨h', v2⟩ := hx
    clear hV k0 k1 k2 f1 f2
    go_quiet (fail)
    have hq := and255 (bits .xor .i64 (h' / 8589934592) (h' / 35184372088832))
    generalize hX : bits .and .i64 (bits .xor .i64 (h' / 8589934592) (h' / 35184372088832)) 255 = X at *
    go_wp2_with (go_quiet (fail))
    refine bodyPost_ret (v := .int .i64 X) (by simp [results, Try.results107, go_sem]) rfl ⟨_, hq.1, hq.2, rfl, ?_, ?_⟩
    · exact ⟨A, n, c, i, h', by simp [go_sem, v0], by simp [go_sem, v1], by simp [go_sem, v2], by simp [go_sem, vf1], by simp [go_sem, vf2], hi, hn, hb.kept (grown_drewN hgV _), by simp [vs]; exact hg⟩
    · exact grown_drewN hgV _
def NumR (g : Nat) (n : Int) (w : World) (e : Ending) (w' : World) : Prop := ∃ x : Int, 0 ≤ x ∧ x < n ∧ e = .returned (.int .i64 x) ∧ Cur w' g ∧ w.grownBy w' (some g)
set_option maxHeartbeats 800000 in
theorem below_any (g : Nat) (w : World) (hc : Cur w g) (n : Int) (hn : 1 ≤ n) (hm : n ≤ 256) : Calls Try.prog 88 #[.pointer (some ⟨g, 0, none⟩), .int .i64 n] w (NumR g n w) := by
  have h1 : ¬ n ≤ 0 := by omega
  have h2 : ¬ n = 0 := by omega
  have h3 : ¬ n = -1 := by omega
  go_enter Try.func88, Try.ntmps88
  go_wp2_with (go_at_call 107; refine (byte_any g _ hc).mono ?_; rintro e w1 ⟨x, hx0, hx1, rfl, hc1, hg1⟩)
  exact bodyPost_ret (v := .int .i64 (x % n)) (by simp [results, Try.results88, go_sem]) rfl ⟨x % n, Int.emod_nonneg _ (by omega), Int.emod_lt_of_pos _ (by omega), rfl, hc1, hg1⟩
def NewR (w : World) (e : Ending) (w' : World) : Prop := ∃ g, w.heap.size ≤ g ∧ e = .returned (.pointer (some ⟨g, 0, none⟩)) ∧ Cur w' g ∧ Below w.heap.size w w'
theorem cur_new {w wr : World} {A : Option Addr} {n c : Nat} {h : Int} {e : TypeId} (hn : n ≤ 1048576) (hr : RdU w A n w.heap.size) (hb : Below w.heap.size w wr) :
    NewR w (.returned (.pointer (some ⟨wr.heap.size, 0, none⟩))) (wr.alloc (.cells #[.slice A n c, .int .i64 0, .int .i64 h] e)) := by
  refine ⟨wr.heap.size, hb.size, rfl, ⟨A, n, c, 0, h, by simp [go_sem], by simp [go_sem], by simp [go_sem], by simp [go_sem], by simp [go_sem], by omega, hn, ?_, by simp⟩, hb.alloc hb.size _⟩
  intro h0
  obtain ⟨b, o, rfl, hbg, hc⟩ := hr h0
  refine ⟨b, o, rfl, Nat.lt_of_lt_of_le hbg hb.size, fun j hj => ?_⟩
  obtain ⟨u, hu, r⟩ := hc j hj
  have h1 := (hb.cell (p := ⟨b, o + j, none⟩) hbg).trans hu
  exact ⟨u, (((Below.refl wr.heap.size wr).alloc (Nat.le_refl _) _).cell (p := ⟨b, o + j, none⟩) (Nat.lt_of_lt_of_le hbg hb.size)).trans h1, r⟩
set_option maxHeartbeats 800000 in
theorem new_any (w : World) (A : Option Addr) (n c : Nat) (hn : n ≤ 1048576) (hr : RdU w A n w.heap.size) : Calls Try.prog 52 #[.slice A n c] w (NewR w) := by
  go_enter Try.func52, Try.ntmps52
  go_wp2
  go_loopw [3, 4] (fun v i wr => ∃ (h : Int) (K : Nat), K ≤ n ∧ v = .int .i64 h ∧ i = .int .i64 K ∧ Below w.heap.size w wr) (fun _ i _ => n - (intOf i).toNat)
  case atStart => exact ⟨_, 0, by omega, rfl, rfl, Below.refl _ _⟩
  case round =>
    obtain ⟨h, K, hK, rfl, rfl, hb⟩ := hrel
    by_cases hlt : K < n
    · by_cases h4 : K < 4000
      · obtain ⟨b, o, rfl, lb, hcl⟩ := hr (by omega)
        obtain ⟨u, hu, hu0, hu1⟩ := hcl K hlt
        have k1 := (hb.cell (p := ⟨b, o + K, none⟩) lb).trans hu
        have h0i : (0 : Int) ≤ (K : Int) := by omega
        have h0j : (K : Int) < (n : Int) := by omega
        have h0k : (K : Int) < 4000 := by omega
        have hwu : IntKind.i64.wrap u = u := by rw [IntKind.wrap_i64]; omega
        clear hr hcl hu hu0 hu1
        go_wp2
        go_roundw
        case rel => exact ⟨_, K + 1, by omega, rfl, by go_num, hb⟩
        case measure => show n - ((K : Int) + 1).toNat < n - (K : Int).toNat; omega
      · have h0j : (K : Int) < (n : Int) := by omega
        have h0k : ¬ (K : Int) < 4000 := by omega
        go_wp2
        exact bodyPost_ret (by simp [results, Try.results52, go_sem]) rfl (cur_new hn hr hb)
    · have h0j : ¬ (K : Int) < (n : Int) := by omega
      go_wp2
      exact bodyPost_ret (by simp [results, Try.results52, go_sem]) rfl (cur_new hn hr hb)
end Go.Proofs.Ytkbceojeahninaa
