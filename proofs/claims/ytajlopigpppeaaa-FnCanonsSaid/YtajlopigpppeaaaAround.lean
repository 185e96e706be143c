/- AroundTurn and SameAround: a tune moved around the turn. -/
import Derived.Test.YtajlopigpppeaaaSpecSort
import Derived.Test.YtajlopigpppeaaaSorted
import Derived.Test.YtajlopigpppeaaaSounding
namespace Go.Proofs.Ytajlopigpppeaaa
open Go.ChangeShapes Go.WideShapes Go.ChangeAt Go.RowKit
set_option linter.unusedVariables false
def aroTo (l : List (Int × Int)) (n s : Int) : Nat → List (Int × Int)
  | 0 => []
  | k + 1 => aroTo l n s k ++ [((tm l k + n) % s, pt l k)]
theorem aroTo_len (l : List (Int × Int)) (n s : Int) : ∀ k, (aroTo l n s k).length = k
  | 0 => rfl
  | k + 1 => by rw [aroTo, List.length_append, aroTo_len l n s k]; rfl
theorem aroTo_succ (l : List (Int × Int)) (n s : Int) (k : Nat) : aroTo l n s (k + 1) = aroTo l n s k ++ [((tm l k + n) % s, pt l k)] := rfl
def aroS (l : List (Int × Int)) (n s : Int) : List (Int × Int) := srt (aroTo l n s l.length)
theorem aroS_len (l : List (Int × Int)) (n s : Int) : (aroS l n s).length ≤ l.length := by
  unfold aroS srt
  have h := srtTo_len (aroTo l n s l.length) (aroTo l n s l.length).length
  rw [aroTo_len] at h ⊢
  exact h
noncomputable def aroB (l : List (Int × Int)) (n s : Int) : Bool := decide (tuneB l = true ∧ (0 ≤ n ∧ n ≤ 1000) ∧ (1 ≤ s ∧ s ≤ 1000) ∧ (aroS l n s).length = l.length)
noncomputable def aroL (l : List (Int × Int)) (n s : Int) : List (Int × Int) := if aroB l n s = true then aroS l n s else []
theorem aroL_len (l : List (Int × Int)) (n s : Int) : (aroL l n s).length ≤ l.length := by
  unfold aroL
  split
  · exact aroS_len l n s
  · simp
theorem aro_no {l : List (Int × Int)} {n s : Int} (h : ¬ (tuneB l = true ∧ (0 ≤ n ∧ n ≤ 1000) ∧ (1 ≤ s ∧ s ≤ 1000) ∧ (aroS l n s).length = l.length)) : aroB l n s = false ∧ aroL l n s = [] := by
  have h1 : aroB l n s = false := decide_eq_false h
  exact ⟨h1, by unfold aroL; rw [h1]; rfl⟩
theorem aro_yes {l : List (Int × Int)} {n s : Int} (h : tuneB l = true ∧ (0 ≤ n ∧ n ≤ 1000) ∧ (1 ≤ s ∧ s ≤ 1000) ∧ (aroS l n s).length = l.length) : aroB l n s = true ∧ aroL l n s = aroS l n s := by
  have h1 : aroB l n s = true := decide_eq_true h
  exact ⟨h1, by unfold aroL; rw [h1]; rfl⟩
theorem tune_lenA {l : List (Int × Int)} (h : tuneB l = true) : l.length ≤ 40 := (of_decide_eq_true h : tuneP l).2
theorem heldRo_keep {w v u : World} {b o N : Nat} {u1 u2 : Value} (l1 : b < N)
    (h : v.cell? ⟨b, o, none⟩ = some u1 ∧ v.cell? ⟨b, o + 1, none⟩ = some u2 ∧ Below N w v) (hb : Below N v u) :
    u.cell? ⟨b, o, none⟩ = some u1 ∧ u.cell? ⟨b, o + 1, none⟩ = some u2 ∧ Below N w u := by
  obtain ⟨h1, h2, h5⟩ := h
  exact ⟨(hb.cell (p := ⟨b, o, none⟩) l1).trans h1, (hb.cell (p := ⟨b, o + 1, none⟩) l1).trans h2, h5.trans hb⟩
theorem heldRo_bel {w v : World} {b o N : Nat} {u1 u2 : Value} (h : v.cell? ⟨b, o, none⟩ = some u1 ∧ v.cell? ⟨b, o + 1, none⟩ = some u2 ∧ Below N w v) : Below N w v := h.2.2
theorem heldP_alloc {w v : World} {p1 p2 : Addr} {N : Nat} {u1 u2 : Value} (m1 : p1.block < w.heap.size) (m2 : p2.block < w.heap.size) (hN : N ≤ w.heap.size)
    (h : v.cell? p1 = some u1 ∧ v.cell? p2 = some u2 ∧ Below N w v) (o : Obj) : (v.alloc o).cell? p1 = some u1 ∧ (v.alloc o).cell? p2 = some u2 ∧ Below N w (v.alloc o) := by
  obtain ⟨h1, h2, h3⟩ := h
  have hs := h3.size
  have hb : Below v.heap.size v (v.alloc o) := (Below.refl _ _).alloc (Nat.le_refl _) o
  exact ⟨(hb.cell (Nat.lt_of_lt_of_le m1 hs)).trans h1, (hb.cell (Nat.lt_of_lt_of_le m2 hs)).trans h2, h3.alloc (Nat.le_trans hN hs) o⟩
theorem heldP_grown {w v u : World} {p1 p2 : Addr} {N g : Nat} {u1 u2 : Value} (n1 : p1.block ≠ g) (n2 : p2.block ≠ g)
    (h : v.cell? p1 = some u1 ∧ v.cell? p2 = some u2 ∧ Below N w v) (hg : v.grownBy u (some g)) (hb : Below N v u) : u.cell? p1 = some u1 ∧ u.cell? p2 = some u2 ∧ Below N w u := by
  obtain ⟨h1, h2, h3⟩ := h
  exact ⟨hg.cell h1 (by simpa using n1), hg.cell h2 (by simpa using n2), h3.trans hb⟩
theorem heldP_bel {w v : World} {p1 p2 : Addr} {N : Nat} {u1 u2 : Value} (h : v.cell? p1 = some u1 ∧ v.cell? p2 = some u2 ∧ Below N w v) : Below N w v := h.2.2
theorem len_A1 {S : List (Int × Int)} {x : Int × Int} (h : S.length ≤ 40) : S.length + [x].length ≤ 1000000000 := by simp; omega
attribute [local irreducible] tm pt tuneB srt aroTo aroS in
set_option maxHeartbeats 1600000 in
theorem impl_AroundTurn (A : Option Addr) (c : Nat) (l : List (Int × Int)) (n s : Int) (w : World) (hrd : RdN w A l) (hl : l.length ≤ 1000000000) (hn : Rng n) (hs : Rng s) :
    Calls Try.prog 28 #[.slice A l.length c, .int .i64 n, .int .i64 s] w (RetNB 42 w.heap.size (aroL l n s) (aroB l n s) w) := by
  have hrd1 := fun (o : Obj) => hrd.below ((Below.refl _ _).alloc (Nat.le_refl _) o) rfl
  cases hB : tuneB l
  · have HB := Lib.hid hB
    have HX := Lib.hid (aro_no (l := l) (n := n) (s := s) (by rw [hB]; simp))
    clear hB
    go_enter Try.func28, Try.ntmps28
    go_wp2_with fail
    refine (impl_TuneOk _ _ _ _ hrd (by omega)).mono ?_
    rintro e w1 ⟨rfl, hb1⟩
    rw [HB.out]
    go_wp2
    go_ret2
    rw [HX.out.1, HX.out.2]
    exact RetNB.mk (OwnN.nil0 _ _ _) hb1
  · by_cases h1 : 0 ≤ n ∧ n ≤ 1000
    · by_cases h2 : 1 ≤ s ∧ s ≤ 1000
      · have HB := Lib.hid hB
        have hl40 := tune_lenA hB
        have HT := Lib.hid (fun (k : Nat) (hk : k < l.length) => tm_rng hB hk)
        have HY := Lib.hid (fun (hh : (aroS l n s).length = l.length) => aro_yes (l := l) (n := n) (s := s) ⟨hB, h1, h2, hh⟩)
        have HZ := Lib.hid (fun (hh : ¬ (aroS l n s).length = l.length) => aro_no (l := l) (n := n) (s := s) (fun h => hh h.2.2.2))
        have HSL := Lib.hid (aroS_len l n s)
        have HS0 := Lib.hid (show srt (aroTo l n s l.length) = aroS l n s by unfold aroS; rfl)
        have hn1 : 0 ≤ n := h1.1
        have hn2 : n ≤ 1000 := h1.2
        have hs1 : 1 ≤ s := h2.1
        have hs2 : s ≤ 1000 := h2.2
        have HZ0 := Lib.hid (show aroTo l n s 0 = [] by unfold aroTo; rfl)
        have HAL := Lib.hid (aroTo_len l n s)
        clear hB
        go_enter Try.func28, Try.ntmps28
        go_wp2_with fail
        refine (impl_TuneOk _ _ _ _ hrd (by omega)).mono ?_
        rintro e w1 ⟨rfl, hb1⟩
        rw [HB.out]
        have ho1 := (OwnN.lit0 w1 42).base_le hb1.size
        have hb01 := hb1.alloc hb1.size (.cells #[] 42)
        go_wp2_with (first | (go_at_call 61; refine (wi_yes _ _ _ _ ?_).mono ?_; omega; rintro e w1 ⟨rfl, rfl⟩) | (go_at_call 61; refine (wi_no _ _ _ _ ?_).mono ?_; omega; rintro e w1 ⟨rfl, rfl⟩))
        go_loopw [8, 27] (fun v i wr => ∃ (k go co : Nat), k ≤ l.length ∧ v = .slice (some ⟨go, 0, none⟩) (aroTo l n s k).length co ∧ i = .int .i64 k ∧ OwnN 42 w.heap.size wr (.slice (some ⟨go, 0, none⟩) (aroTo l n s k).length co) (aroTo l n s k) ∧ Below w.heap.size w wr) (fun _ i _ => l.length - (intOf i).toNat)
        case atStart => exact ⟨0, w1.heap.size, 0, by omega, by rw [HZ0.out]; rfl, rfl, by rw [HZ0.out]; exact ho1, hb01⟩
        case round =>
          obtain ⟨k, go, co, hk, rfl, rfl, ho, hb⟩ := hrel
          by_cases hlt : k < l.length
          · obtain ⟨b, o, rfl, lb, hc⟩ := hrd (by omega)
            have k1 := (hb.cell (p := ⟨b, o + k * 2, none⟩) lb).trans (hc k hlt).1
            have k2 := (hb.cell (p := ⟨b, o + k * 2 + 1, none⟩) lb).trans (hc k hlt).2
            have mb : b < wr.heap.size := Nat.lt_of_lt_of_le lb hb.size
            have h0a : (0 : Int) ≤ (k : Int) := by omega
            have h0b : (k : Int) < (l.length : Int) := by omega
            have ht1 := (HT.out k hlt).1
            have ht2 := (HT.out k hlt).2
            have hlen : (aroTo l n s k).length ≤ 40 := by rw [HAL.out]; omega
            have HN := Lib.hid (aroTo_succ l n s k)
            have hw1 : IntKind.i64.wrap (tm l k + n) = tm l k + n := IntWalk.i64_in _ (by omega)
            have hs0 : ¬ s = 0 := by omega
            have hsb : (s == 0) = false := by simp; omega
            have hw2 : (tm l k + n).tmod s = (tm l k + n) % s := Int.tmod_eq_emod_of_nonneg (by omega)
            have hw3 : IntKind.i64.wrap ((tm l k + n) % s) = (tm l k + n) % s := IntWalk.i64_in _ (by have := Int.emod_nonneg (tm l k + n) hs0; have := Int.emod_lt_of_pos (tm l k + n) (show 0 < s by omega); omega)
            clear hc
            have hbs := hb.size
            go_upto_region 7 with fail
            obtain ⟨wb, hwb⟩ : ∃ W, W = wr.alloc (.cells #[.int .i64 (tm l k), .int .i64 (pt l k)] 42) := ⟨_, rfl⟩
            rw [← hwb]
            have x1 : wb.cell? ⟨wr.heap.size, 0, none⟩ = some (.int .i64 (tm l k)) := by rw [hwb]; simp [go_sem]
            have x2 : wb.cell? ⟨wr.heap.size, 1, none⟩ = some (.int .i64 (pt l k)) := by rw [hwb]; simp [go_sem]
            have mx : wr.heap.size < wb.heap.size := by rw [hwb]; simp
            have hob : OwnN 42 w.heap.size wb (.slice (some ⟨go, 0, none⟩) (aroTo l n s k).length co) (aroTo l n s k) := by rw [hwb]; exact ho.alloc _
            have hbb : Below w.heap.size w wb := by rw [hwb]; exact hb.alloc hbs _
            have hgo := (ho.lt go rfl).2
            have hbs2 := hbb.size
            clear hwb
            go_region_held3 (fun w' => w'.cell? ⟨wr.heap.size, 0, none⟩ = some (.int .i64 (tm l k)) ∧ w'.cell? ⟨wr.heap.size, 1, none⟩ = some (.int .i64 (pt l k)) ∧ Below w.heap.size wb w')
              (first | exact ⟨x1, x2, (Below.refl _ _).drew⟩ | exact ⟨x1, x2, Below.refl _ _⟩ | assumption | exact heldP_alloc mx mx hbs2 (by assumption) _ | exact heldP_grown (Nat.ne_of_gt hgo) (Nat.ne_of_gt hgo) (by assumption) hgr3 hbn3)
              ((refine step_app_pairs rfl (.tmp 31) (.tmp 41) _ rfl 42 Try.underlying26 (by kernel_rfl) w.heap.size go co _ 1 (aroTo l n s k) [((tm l k + n) % s, pt l k)] _ 1 rfl rfl rfl rfl rfl (hob.alloc _) (rd_one _ _ _ _) (len_A1 hlen) (Nat.le_trans hbs2 (heldP_bel (by assumption)).size) ?_; intro g3 c3 w3 hown3 hbn3 hgr3))
            have hB3 : Below w.heap.size w w3 := hbb.trans (heldP_bel (by assumption))
            go_wp2
            go_roundw
            case rel => exact ⟨k + 1, g3, c3, by omega, by rw [HN.out]; simp, by go_num, by rw [HN.out]; exact hown3, hB3⟩
            case measure => simp [intOf]; omega
          · obtain rfl : k = l.length := by omega
            go_wp2_with fail
            refine (sorted_any _ _ _ _ ho.rdA (by rw [HAL.out]; omega) (fun h => by cases h)).mono ?_
            rintro e w5 ⟨A5, c5, rfl, ho5, _, _, _, _, hb5⟩
            rw [HS0.out] at ho5 ⊢
            have HO := Lib.hid (ho5.base_le hb.size)
            have hB5 := hb.trans (hb5.mono hb.size)
            clear ho5
            by_cases hh : (aroS l n s).length = l.length
            · have HYY := Lib.hid (HY.out hh)
              have hq : ¬ (((aroS l n s).length : Int) < (l.length : Int)) := by omega
              clear hh
              go_wp2
              go_ret2
              rw [HYY.out.1, HYY.out.2]
              exact RetNB.mk HO.out hB5
            · have HYY := Lib.hid (HZ.out hh)
              have hq : (((aroS l n s).length : Int) < (l.length : Int)) := by have := HSL.out; omega
              clear hh
              go_wp2
              go_ret2
              rw [HYY.out.1, HYY.out.2]
              exact RetNB.mk (OwnN.nil0 _ _ _) hB5
      · have HB := Lib.hid hB
        have HX := Lib.hid (aro_no (l := l) (n := n) (s := s) (fun h => h2 h.2.2.1))
        clear hB
        go_enter Try.func28, Try.ntmps28
        go_wp2_with fail
        refine (impl_TuneOk _ _ _ _ hrd (by omega)).mono ?_
        rintro e w1 ⟨rfl, hb1⟩
        rw [HB.out]
        go_wp2_with (first | (go_at_call 61; refine (wi_yes _ _ _ _ ?_).mono ?_; omega; rintro e w1 ⟨rfl, rfl⟩) | (go_at_call 61; refine (wi_no _ _ _ _ ?_).mono ?_; omega; rintro e w1 ⟨rfl, rfl⟩))
        all_goals (go_ret2; rw [HX.out.1, HX.out.2]; exact RetNB.mk (OwnN.nil0 _ _ _) hb1)
    · have HB := Lib.hid hB
      have HX := Lib.hid (aro_no (l := l) (n := n) (s := s) (fun h => h1 h.2.1))
      clear hB
      go_enter Try.func28, Try.ntmps28
      go_wp2_with fail
      refine (impl_TuneOk _ _ _ _ hrd (by omega)).mono ?_
      rintro e w1 ⟨rfl, hb1⟩
      rw [HB.out]
      go_wp2_with (first | (go_at_call 61; refine (wi_yes _ _ _ _ ?_).mono ?_; omega; rintro e w1 ⟨rfl, rfl⟩) | (go_at_call 61; refine (wi_no _ _ _ _ ?_).mono ?_; omega; rintro e w1 ⟨rfl, rfl⟩))
      go_ret2
      rw [HX.out.1, HX.out.2]
      exact RetNB.mk (OwnN.nil0 _ _ _) hb1
end Go.Proofs.Ytajlopigpppeaaa
