/- Wear of pins: the program's and the reference's WearOk and Silent by contract. -/
import Derived.Test.YtajlopigpppeaaaIn
import Derived.Test.YtajlopigpppeaaaInts
namespace Go.Proofs.Ytajlopigpppeaaa
open Go.ChangeShapes Go.WideShapes Go.ChangeAt Go.RowKit
set_option linter.unusedVariables false
def wearAt (l : List Int) (i : Nat) : Prop := 0 ≤ gt l i ∧ gt l i ≤ 1000
instance (l : List Int) (i : Nat) : Decidable (wearAt l i) := by unfold wearAt; infer_instance
def wearOk (l : List Int) (n : Int) : Prop := l.length ≤ 100 ∧ (1 ≤ n ∧ n ≤ 20) ∧ ∀ i, i < l.length → wearAt l i
instance (l : List Int) (n : Int) : Decidable (wearOk l n) := by unfold wearOk; infer_instance
def wearB (l : List Int) (n : Int) : Bool := decide (wearOk l n)
theorem to_succ' {p : Nat → Prop} {k : Nat} (h : ∀ i, i < k → p i) (hk : p k) : ∀ i, i < k + 1 → p i := by
  intro i hi
  by_cases e : i = k
  · subst e; exact hk
  · exact h i (by omega)
theorem rd_alloc {w : World} {A : Option Addr} {l : List Int} (h : RdI w A l) (o : Obj) : RdI (w.alloc o) A l := h.below ((Below.refl _ _).alloc (Nat.le_refl _) o) rfl
set_option maxHeartbeats 800000 in
theorem spec_WearOk (A : Option Addr) (c : Nat) (l : List Int) (n : Int) (w : World) (hrd : RdI w A l) (hl : l.length ≤ 1000000000) :
    Calls Try.prog 75 #[.agg #[.slice A l.length c, .int .i64 n]] w fun e w' => e = .returned (.bool (wearB l n)) ∧ Below w.heap.size w w' := by
  have hrd1 := fun o => rd_alloc hrd o
  have hbw := fun o => (Below.refl w.heap.size w).alloc (Nat.le_refl _) o
  go_enter Try.func75, Try.ntmps75
  go_wp2
  go_loop [3] (fun q => ∃ k : Nat, k ≤ l.length ∧ q = .int .i64 k ∧ ∀ i, i < k → wearAt l i) (fun q => l.length - (intOf q).toNat)
  case atStart => exact ⟨0, by omega, rfl, fun _ h => by omega⟩
  case round =>
    obtain ⟨k, hk, rfl, hM⟩ := hrel
    have HM := Lib.hid hM
    clear hM
    by_cases hlt : k < l.length
    · obtain ⟨b1, o1, rfl, _, hc1⟩ := hrd1 (.cells #[.slice A l.length c, .int .i64 n] 56) (by omega)
      have h1 := hc1 k hlt
      by_cases hin : 0 ≤ gt l k ∧ gt l k ≤ 1000
      · have HA : Hid (wearAt l k) := hin
        clear hc1 hrd hrd1 hbw
        go_wp2_with (first | (go_at_call 58; refine (in_yes _ _ _ _ ?_).mono ?_; omega; rintro e w1 ⟨rfl, rfl⟩) | (go_at_call 58; refine (in_no _ _ _ _ ?_).mono ?_; omega; rintro e w1 ⟨rfl, rfl⟩))
        go_round
        case rel => exact ⟨k + 1, by omega, by go_num, to_succ' HM.out HA.out⟩
        case measure => simp [intOf]; omega
      · have HA : Hid (wearB l n = false) := decide_eq_false (fun h => hin (h.2.2 k hlt))
        clear hc1 hrd hrd1
        go_wp2_with (first | (go_at_call 58; refine (in_yes _ _ _ _ ?_).mono ?_; omega; rintro e w1 ⟨rfl, rfl⟩) | (go_at_call 58; refine (in_no _ _ _ _ ?_).mono ?_; omega; rintro e w1 ⟨rfl, rfl⟩))
        go_ret
        exact ⟨ret_bool HA.out.symm, hbw _⟩
    · clear hrd hrd1
      obtain rfl : k = l.length := by omega
      by_cases hlen : l.length ≤ 100
      · by_cases hn : 1 ≤ n ∧ n ≤ 20
        · have HA : Hid (wearB l n = true) := decide_eq_true ⟨hlen, hn, HM.out⟩
          have hlen' : (l.length : Int) ≤ 100 := by omega
          go_wp2_with (first | (go_at_call 58; refine (in_yes _ _ _ _ ?_).mono ?_; omega; rintro e w1 ⟨rfl, rfl⟩) | (go_at_call 58; refine (in_no _ _ _ _ ?_).mono ?_; omega; rintro e w1 ⟨rfl, rfl⟩))
          go_ret
          exact ⟨ret_bool HA.out.symm, hbw _⟩
        · have HA : Hid (wearB l n = false) := decide_eq_false (fun h => hn h.2.1)
          have hlen' : (l.length : Int) ≤ 100 := by omega
          go_wp2_with (first | (go_at_call 58; refine (in_yes _ _ _ _ ?_).mono ?_; omega; rintro e w1 ⟨rfl, rfl⟩) | (go_at_call 58; refine (in_no _ _ _ _ ?_).mono ?_; omega; rintro e w1 ⟨rfl, rfl⟩))
          go_ret
          exact ⟨ret_bool HA.out.symm, hbw _⟩
      · have HA : Hid (wearB l n = false) := decide_eq_false (fun h => hlen h.1)
        have hlen' : ¬ (l.length : Int) ≤ 100 := by omega
        go_wp2_with (first | (go_at_call 58; refine (in_yes _ _ _ _ ?_).mono ?_; omega; rintro e w1 ⟨rfl, rfl⟩) | (go_at_call 58; refine (in_no _ _ _ _ ?_).mono ?_; omega; rintro e w1 ⟨rfl, rfl⟩))
        go_ret
        exact ⟨ret_bool HA.out.symm, hbw _⟩
set_option maxHeartbeats 800000 in
theorem impl_WearOk (A : Option Addr) (c : Nat) (l : List Int) (n : Int) (w : World) (hrd : RdI w A l) (hl : l.length ≤ 1000000000) :
    Calls Try.prog 78 #[.agg #[.slice A l.length c, .int .i64 n]] w fun e w' => e = .returned (.bool (wearB l n)) ∧ Below w.heap.size w w' := by
  have hrd1 := fun o => rd_alloc hrd o
  have hbw := fun o => (Below.refl w.heap.size w).alloc (Nat.le_refl _) o
  by_cases hlen : l.length ≤ 100
  · have hlen' : ¬ (100 : Int) < (l.length : Int) := by omega
    by_cases hn : 1 ≤ n ∧ n ≤ 20
    · go_enter Try.func78, Try.ntmps78
      go_wp2_with (first | (go_at_call 61; refine (wi_yes _ _ _ _ ?_).mono ?_; omega; rintro e w1 ⟨rfl, rfl⟩) | (go_at_call 61; refine (wi_no _ _ _ _ ?_).mono ?_; omega; rintro e w1 ⟨rfl, rfl⟩))
      go_loop [18] (fun q => ∃ k : Nat, k ≤ l.length ∧ q = .int .i64 k ∧ ∀ i, i < k → wearAt l i) (fun q => l.length - (intOf q).toNat)
      case atStart => exact ⟨0, by omega, rfl, fun _ h => by omega⟩
      case round =>
        obtain ⟨k, hk, rfl, hM⟩ := hrel
        have HM := Lib.hid hM
        clear hM
        by_cases hlt : k < l.length
        · obtain ⟨b1, o1, rfl, _, hc1⟩ := hrd1 (.cells #[.slice A l.length c, .int .i64 n] 56) (by omega)
          have h1 := hc1 k hlt
          by_cases hin : 0 ≤ gt l k ∧ gt l k ≤ 1000
          · have HA : Hid (wearAt l k) := hin
            clear hc1 hrd hrd1 hbw
            go_wp2_with (first | (go_at_call 61; refine (wi_yes _ _ _ _ ?_).mono ?_; omega; rintro e w1 ⟨rfl, rfl⟩) | (go_at_call 61; refine (wi_no _ _ _ _ ?_).mono ?_; omega; rintro e w1 ⟨rfl, rfl⟩))
            go_round
            case rel => exact ⟨k + 1, by omega, by go_num, to_succ' HM.out HA.out⟩
            case measure => simp [intOf]; omega
          · have HA : Hid (wearB l n = false) := decide_eq_false (fun h => hin (h.2.2 k hlt))
            clear hc1 hrd hrd1
            go_wp2_with (first | (go_at_call 61; refine (wi_yes _ _ _ _ ?_).mono ?_; omega; rintro e w1 ⟨rfl, rfl⟩) | (go_at_call 61; refine (wi_no _ _ _ _ ?_).mono ?_; omega; rintro e w1 ⟨rfl, rfl⟩))
            go_ret
            exact ⟨ret_bool HA.out.symm, hbw _⟩
        · clear hrd hrd1
          obtain rfl : k = l.length := by omega
          have HA : Hid (wearB l n = true) := decide_eq_true ⟨hlen, hn, HM.out⟩
          go_wp2_with (first | (go_at_call 61; refine (wi_yes _ _ _ _ ?_).mono ?_; omega; rintro e w1 ⟨rfl, rfl⟩) | (go_at_call 61; refine (wi_no _ _ _ _ ?_).mono ?_; omega; rintro e w1 ⟨rfl, rfl⟩))
          go_ret
          exact ⟨ret_bool HA.out.symm, hbw _⟩
    · have HA : Hid (wearB l n = false) := decide_eq_false (fun h => hn h.2.1)
      go_enter Try.func78, Try.ntmps78
      go_wp2_with (first | (go_at_call 61; refine (wi_yes _ _ _ _ ?_).mono ?_; omega; rintro e w1 ⟨rfl, rfl⟩) | (go_at_call 61; refine (wi_no _ _ _ _ ?_).mono ?_; omega; rintro e w1 ⟨rfl, rfl⟩))
      go_ret
      exact ⟨ret_bool HA.out.symm, hbw _⟩
  · have HA : Hid (wearB l n = false) := decide_eq_false (fun h => hlen h.1)
    have hlen' : (100 : Int) < (l.length : Int) := by omega
    go_enter Try.func78, Try.ntmps78
    go_wp2_with (first | (go_at_call 61; refine (wi_yes _ _ _ _ ?_).mono ?_; omega; rintro e w1 ⟨rfl, rfl⟩) | (go_at_call 61; refine (wi_no _ _ _ _ ?_).mono ?_; omega; rintro e w1 ⟨rfl, rfl⟩))
    go_ret
    exact ⟨ret_bool HA.out.symm, hbw _⟩
set_option maxHeartbeats 800000 in
theorem toWear_any (A : Option Addr) (c : Nat) (l : List Int) (n : Int) (w : World) (hrd : RdI w A l) (hl : l.length ≤ 1000000000) :
    Calls Try.prog 43 #[.agg #[.slice A l.length c, .int .i64 n]] w (RetW 3 w.heap.size l n w) := by
  obtain ⟨W, hW⟩ : ∃ W, W = ((w.alloc (.cells #[.slice A l.length c, .int .i64 n] 54)).alloc (.cells #[.slice none 0 0, .int .i64 0] 56)).alloc (.cells #[.slice none 0 0, .int .i64 0] 56) := ⟨_, rfl⟩
  have hrdW : RdI W A l := by rw [hW]; exact rd_alloc (rd_alloc (rd_alloc hrd _) _) _
  have hbW : Below w.heap.size w W := by rw [hW]; exact (((Below.refl _ _).alloc (Nat.le_refl _) _).alloc (by simp) _).alloc (by simp; omega) _
  have hsW : W.heap.size = w.heap.size + 3 := by rw [hW]; simp
  have hcW : W.cell? ⟨w.heap.size, 1, none⟩ = some (.int .i64 n) ∧ W.cell? ⟨w.heap.size + 2, 0, none⟩ = some (.slice none 0 0) ∧ W.cell? ⟨w.heap.size + 2, 1, none⟩ = some (.int .i64 0) ∧ W.cell? ⟨w.heap.size + 1, 0, none⟩ = some (.slice none 0 0) ∧ W.cell? ⟨w.heap.size + 1, 1, none⟩ = some (.int .i64 0) := by
    rw [hW]; exact ⟨by simp [go_sem], by simp [go_sem], by simp [go_sem], by simp [go_sem], by simp [go_sem]⟩
  have hfW : W.frozen? ⟨w.heap.size + 2, 0, none⟩ = false ∧ W.frozen? ⟨w.heap.size + 2, 1, none⟩ = false ∧ W.frozen? ⟨w.heap.size + 1, 0, none⟩ = false ∧ W.frozen? ⟨w.heap.size + 1, 1, none⟩ = false := by
    rw [hW]; exact ⟨by simp [go_sem], by simp [go_sem], by simp [go_sem], by simp [go_sem]⟩
  have HW := Lib.hid hW
  clear hW
  go_enter Try.func43, Try.ntmps43
  go_wp2_with fail
  rw [← HW.out]
  refine (toIntS_any A c l W hrdW hl).mono ?_
  rintro e w1 ⟨A1, c1, rfl, ho, hc1, hm1, hn1, hr1, hb1⟩
  have k1 := (hb1.cell (p := ⟨w.heap.size, 1, none⟩) (by show w.heap.size < _; omega)).trans hcW.1
  have k2 := (hb1.cell (p := ⟨w.heap.size + 2, 0, none⟩) (by show w.heap.size + 2 < _; omega)).trans hcW.2.1
  have k3 := (hb1.cell (p := ⟨w.heap.size + 2, 1, none⟩) (by show w.heap.size + 2 < _; omega)).trans hcW.2.2.1
  have f2 := (hb1.frozen (p := ⟨w.heap.size + 2, 0, none⟩) (by show w.heap.size + 2 < _; omega)).trans hfW.1
  have f3 := (hb1.frozen (p := ⟨w.heap.size + 2, 1, none⟩) (by show w.heap.size + 2 < _; omega)).trans hfW.2.1
  have k4 := (hb1.cell (p := ⟨w.heap.size + 1, 0, none⟩) (by show w.heap.size + 1 < _; omega)).trans hcW.2.2.2.1
  have k5 := (hb1.cell (p := ⟨w.heap.size + 1, 1, none⟩) (by show w.heap.size + 1 < _; omega)).trans hcW.2.2.2.2
  have f4 := (hb1.frozen (p := ⟨w.heap.size + 1, 0, none⟩) (by show w.heap.size + 1 < _; omega)).trans hfW.2.2.1
  have f5 := (hb1.frozen (p := ⟨w.heap.size + 1, 1, none⟩) (by show w.heap.size + 1 < _; omega)).trans hfW.2.2.2
  have z1 : w.heap.size + 2 < w1.heap.size := by have := hb1.size; omega
  have HO : Hid (OwnI 3 (w.heap.size + 3) w1 (.slice A1 l.length c1) l) := by unfold Hid; rw [← hsW]; exact ho
  have HB : Hid (Below w.heap.size w w1) := hbW.trans (hb1.mono (by omega))
  clear ho hr1 hb1 hbW hsW hcW hfW hrd hrdW hn1 hc1 hm1
  go_wp2
  refine bodyPost_ret (v := .agg #[.slice A1 l.length c1, .int .i64 n]) (by simp [results, Try.results43, go_sem, k4, k5]) rfl (RetW.mk (OwnI.base_le (B := w.heap.size + 3) ?_ (by omega)) ?_)
  · exact (((HO.out.setBelow (by show w.heap.size + 2 < _; omega) _).setBelow (by show w.heap.size + 2 < _; omega) _).setBelow (by show w.heap.size + 1 < _; omega) _).setBelow (by show w.heap.size + 1 < _; omega) _
  · exact (((HB.out.setCell (by show _ ≤ w.heap.size + 2; omega) _).setCell (by show _ ≤ w.heap.size + 2; omega) _).setCell (by show _ ≤ w.heap.size + 1; omega) _).setCell (by show _ ≤ w.heap.size + 1; omega) _
theorem szWear_any (A : Option Addr) (c : Nat) (l : List Int) (n left : Int) (w : World) (hl : (l.length : Int) ≤ left) (hm : left ≤ 1048576) :
    Calls Try.prog 41 #[.agg #[.slice A l.length c, .int .i64 n], .int .i64 left] w fun e w' => e = .returned (.int .i64 (left - l.length)) ∧ Below w.heap.size w w' := by
  go_enter Try.func41, Try.ntmps41
  go_wp2_with (go_at_call 73; go_in)
  go_ret
  exact ⟨rfl, (Below.refl _ _).alloc (Nat.le_refl _) _⟩
theorem szWear_big (A : Option Addr) (c : Nat) (l : List Int) (n : Int) (w : World) (hl : 1048576 < l.length) (hm : l.length ≤ 9223372036854775807) :
    Calls Try.prog 41 #[.agg #[.slice A l.length c, .int .i64 n], .int .i64 1048576] w fun e w' => e = .returned (.int .i64 (-1)) ∧ Below w.heap.size w w' := by
  go_enter Try.func41, Try.ntmps41
  go_wp2_with (go_at_call 73; go_in)
  go_ret
  exact ⟨rfl, (Below.refl _ _).alloc (Nat.le_refl _) _⟩
set_option maxHeartbeats 800000 in
theorem eqWear_same (A B : Option Addr) (c d : Nat) (l : List Int) (n : Int) (w : World) (hA : RdI w A l) (hB : RdI w B l) (hl : l.length ≤ 1000000000) :
    Calls Try.prog 45 #[.agg #[.slice A l.length c, .int .i64 n], .agg #[.slice B l.length d, .int .i64 n]] w fun e w' => e = .returned (.bool true) ∧ Below w.heap.size w w' := by
  obtain ⟨W, hW⟩ : ∃ W, W = (w.alloc (.cells #[.slice A l.length c, .int .i64 n] 56)).alloc (.cells #[.slice B l.length d, .int .i64 n] 56) := ⟨_, rfl⟩
  have hAW : RdI W A l := by rw [hW]; exact rd_alloc (rd_alloc hA _) _
  have hBW : RdI W B l := by rw [hW]; exact rd_alloc (rd_alloc hB _) _
  have hbW : Below w.heap.size w W := by rw [hW]; exact ((Below.refl _ _).alloc (Nat.le_refl _) _).alloc (by simp) _
  have hsW : W.heap.size = w.heap.size + 2 := by rw [hW]; simp
  have hcW : W.cell? ⟨w.heap.size, 1, none⟩ = some (.int .i64 n) ∧ W.cell? ⟨w.heap.size + 1, 1, none⟩ = some (.int .i64 n) := by
    rw [hW]; exact ⟨by simp [go_sem], by simp [go_sem]⟩
  have HW := Lib.hid hW
  clear hW
  go_enter Try.func45, Try.ntmps45
  go_wp2_with fail
  rw [← HW.out]
  refine (eqIntS_same A B c d l W hAW hBW hl).mono ?_
  rintro e w1 ⟨rfl, hb1⟩
  have k1 := (hb1.cell (p := ⟨w.heap.size, 1, none⟩) (by show w.heap.size < _; omega)).trans hcW.1
  have k2 := (hb1.cell (p := ⟨w.heap.size + 1, 1, none⟩) (by show w.heap.size + 1 < _; omega)).trans hcW.2
  have HB : Hid (Below w.heap.size w w1) := hbW.trans (hb1.mono (by omega))
  clear hb1 hbW hsW hcW hA hB hAW hBW
  go_wp2
  go_ret
  exact ⟨rfl, HB.out⟩
def silTo (l : List Int) (m : Int) (k : Nat) : List Int := ((List.range k).filter fun i => decide (gt l i < m)).map Int.ofNat
theorem silTo_succ (l : List Int) (m : Int) (k : Nat) : silTo l m (k + 1) = silTo l m k ++ (if gt l k < m then [(k : Int)] else []) := by
  unfold silTo
  rw [List.range_succ, List.filter_append, List.map_append]
  congr 1
  by_cases h : gt l k < m <;> simp [h]
theorem silTo_length (l : List Int) (m : Int) (k : Nat) : (silTo l m k).length ≤ k := by
  unfold silTo
  rw [List.length_map]
  have := List.length_filter_le (fun i => decide (gt l i < m)) (List.range k)
  simpa using this
def silOk (l : List Int) (n m : Int) : Bool := wearB l n && decide (0 ≤ m ∧ m ≤ 1000)
def silZ (l : List Int) (n m : Int) : List Int := if silOk l n m then silTo l m l.length else []
theorem silZ_length (l : List Int) (n m : Int) : (silZ l n m).length ≤ l.length := by
  unfold silZ
  split
  · exact silTo_length l m _
  · simp
end Go.Proofs.Ytajlopigpppeaaa
