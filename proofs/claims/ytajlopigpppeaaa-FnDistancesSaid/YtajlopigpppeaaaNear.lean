/- The nearest of some tunes. -/
import Derived.Test.YtajlopigpppeaaaNssB
import Derived.Test.YtajlopigpppeaaaDistC
namespace Go.Proofs.Ytajlopigpppeaaa
open Go.ChangeShapes Go.WideShapes Go.ChangeAt Go.RowKit
set_option linter.unusedVariables false
noncomputable def nbZ (ls : List (List (Int × Int))) (t : List (Int × Int)) : Nat → Nat
  | 0 => 0
  | k + 1 => if disB (nt ls k) t < disB (nt ls (nbZ ls t k)) t then k else nbZ ls t k
theorem nb_yes {ls : List (List (Int × Int))} {t : List (Int × Int)} {k : Nat} (h : disB (nt ls k) t < disB (nt ls (nbZ ls t k)) t) : nbZ ls t (k + 1) = k := if_pos h
theorem nb_no {ls : List (List (Int × Int))} {t : List (Int × Int)} {k : Nat} (h : ¬ disB (nt ls k) t < disB (nt ls (nbZ ls t k)) t) : nbZ ls t (k + 1) = nbZ ls t k := if_neg h
theorem nbZ_le (ls : List (List (Int × Int))) (t : List (Int × Int)) : ∀ k, nbZ ls t (k + 1) ≤ k
  | 0 => by rw [nbZ]; split <;> simp [nbZ]
  | k + 1 => by have := nbZ_le ls t k; rw [nbZ]; split <;> omega
theorem nbZ_le' (ls : List (List (Int × Int))) (t : List (Int × Int)) (k : Nat) : nbZ ls t k ≤ k := by
  cases k with
  | zero => simp [nbZ]
  | succ k => have := nbZ_le ls t k; omega
def nearOk (ls : List (List (Int × Int))) (t : List (Int × Int)) : Prop := (1 ≤ ls.length ∧ ls.length ≤ 8) ∧ allOk ls ls.length ∧ tuneB t = true
noncomputable instance (ls : List (List (Int × Int))) (t : List (Int × Int)) : Decidable (nearOk ls t) := Classical.propDecidable _
noncomputable def nearB (ls : List (List (Int × Int))) (t : List (Int × Int)) : Int := if nearOk ls t then (nbZ ls t ls.length : Int) else -1
theorem nearB_yes {ls : List (List (Int × Int))} {t : List (Int × Int)} (h : nearOk ls t) : nearB ls t = (nbZ ls t ls.length : Int) := if_pos h
theorem nearB_no {ls : List (List (Int × Int))} {t : List (Int × Int)} (h : ¬ nearOk ls t) : nearB ls t = -1 := if_neg h
theorem dis_neg {a b : List (Int × Int)} (h : ¬ (tuneB a = true ∧ tuneB b = true)) : disB a b < 0 := by rw [disB_no h]; omega
theorem dis_pos {a b : List (Int × Int)} (h : tuneB a = true ∧ tuneB b = true) : 0 ≤ disB a b := by rw [disB_yes h.1 h.2]; exact (dis_rng a b _ _).1
attribute [local irreducible] nt tuneB disB nbZ areB in
set_option maxHeartbeats 1600000 in
theorem impl_Near_ok (A B : Option Addr) (c d : Nat) (ls : List (List (Int × Int))) (t : List (Int × Int)) (w : World) (hra : RdNS w A ls) (hrb : RdN w B t) (hlt : t.length ≤ 1000000000) (hn : ∀ k, k < ls.length → (nt ls k).length ≤ 1000000000) (hok : nearOk ls t) :
    Calls Try.prog 37 #[.slice A ls.length c, .slice B t.length d] w fun e w' => e = .returned (.int .i64 (nbZ ls t ls.length : Nat)) ∧ Below w.heap.size w w' := by
  have HNL := Lib.hid hn
  have HAR := Lib.hid (show areB ls 8 = true by unfold areB; rw [decide_eq_true (by have := hok.1; omega), decide_eq_true hok.2.1]; rfl)
  have HB := Lib.hid hok.2.2
  obtain ⟨hl1, hl2⟩ := hok.1
  clear hok
  have hq0 : ((ls.length : Int) == 0) = false := by rw [beq_eq_false_iff_ne]; omega
  have hq1 : ¬ ls = [] := by intro h; rw [h] at hl1; simp at hl1
  go_enter Try.func37, Try.ntmps37
  go_wp2_with fail
  refine (areTunes_any _ _ _ _ _ hra (by omega) HNL.out).mono ?_
  rintro e w1 ⟨rfl, hb1⟩
  rw [HAR.out]
  go_wp2_with fail
  refine (impl_TuneOk _ _ _ _ (hrb.below hb1 rfl) hlt).mono ?_
  rintro e w2 ⟨rfl, hb2⟩
  rw [HB.out]
  have hb02 := hb1.trans (hb2.mono hb1.size)
  have ra := hra.below hb02 rfl
  have rb := hrb.below hb02 rfl
  clear hra hrb hb1 hb2 hn
  go_wp2
  go_loopw [5, 22] (fun q i wr => ∃ k : Nat, k ≤ ls.length ∧ i = .int .i64 k ∧ q = .int .i64 (nbZ ls t k : Nat) ∧ Below w2.heap.size w2 wr) (fun _ i _ => ls.length - (intOf i).toNat)
  case atStart => exact ⟨0, by omega, rfl, by rw [nbZ]; rfl, Below.refl _ _⟩
  case round =>
    obtain ⟨k, hk, rfl, rfl, hb⟩ := hrel
    have hzl := nbZ_le' ls t k
    have HNB := Lib.hid (fun h => nb_yes (ls := ls) (t := t) (k := k) h)
    have HNN := Lib.hid (fun h => nb_no (ls := ls) (t := t) (k := k) h)
    obtain ⟨z, hz⟩ : ∃ z, z = nbZ ls t k := ⟨_, rfl⟩
    rw [← hz] at hzl HNB HNN ⊢
    have HZ := Lib.hid hz
    clear hz
    by_cases hlk : k < ls.length
    · obtain ⟨b1, o1, rfl, l1, hc1⟩ := ra (by omega)
      obtain ⟨A1, c1, p1, _, _, p4⟩ := hc1 k hlk
      obtain ⟨A2, c2, q1, _, _, q4⟩ := hc1 z (by omega)
      have k1 := (hb.cell (p := ⟨b1, o1 + k, none⟩) l1).trans p1
      have k2 := (hb.cell (p := ⟨b1, o1 + z, none⟩) l1).trans q1
      have hnl := HNL.out k hlk
      have hnz := HNL.out z (by omega)
      have HQ := Lib.hid (fun w' (h : Below wr.heap.size wr w') => And.intro ((p4.below hb rfl).below h rfl) (And.intro ((q4.below hb rfl).below h rfl) ((rb.below hb rfl).below h rfl)))
      have m1 := Nat.lt_of_lt_of_le l1 hb.size
      have h0z : (0 : Int) ≤ (z : Int) := by omega
      have h0y : (z : Int) < (ls.length : Int) := by omega
      have h0a : (0 : Int) ≤ (k : Int) := by omega
      have h0b : (k : Int) < (ls.length : Int) := by omega
      have hr1 := disB_rng (nt ls k) t
      have hr2 := disB_rng (nt ls z) t
      clear hc1 p1 p4 q1 q4
      go_wp2_with fail
      go_region_held3 (fun w' => w'.cell? ⟨b1, o1 + k, none⟩ = some (.slice A1 (nt ls k).length c1) ∧ w'.cell? ⟨b1, o1 + z, none⟩ = some (.slice A2 (nt ls z).length c2) ∧ Below wr.heap.size wr w')
        (first | exact ⟨k1, k2, (Below.refl _ _).drew⟩ | exact held2_keep m1 m1 (by assumption) hbz)
        (first | (go_at_call 32; first | ((with_reducible refine (impl_Dist A1 B c1 d (nt ls k) t _ (HQ.out _ (held2_bel (by assumption))).1 (HQ.out _ (held2_bel (by assumption))).2.2 hnl hlt).mono ?_); rintro e wz ⟨rfl, hbz⟩) | ((with_reducible refine (impl_Dist A2 B c2 d (nt ls z) t _ (HQ.out _ (held2_bel (by assumption))).2.1 (HQ.out _ (held2_bel (by assumption))).2.2 hnz hlt).mono ?_); rintro e wz ⟨rfl, hbz⟩)))
      rename_i hH
      have hb2 := hb.trans ((held2_bel hH).mono hb.size)
      by_cases hw : disB (nt ls k) t < disB (nt ls z) t
      · have HY := Lib.hid (HNB.out hw)
        go_wp2
        go_roundw
        case rel => exact ⟨k + 1, by omega, by go_num, by rw [HY.out], hb2⟩
        case measure => simp [intOf]; omega
      · have HY := Lib.hid (HNN.out (by omega))
        go_wp2
        go_roundw
        case rel => exact ⟨k + 1, by omega, by go_num, by rw [HY.out], hb2⟩
        case measure => simp [intOf]; omega
    · obtain rfl : k = ls.length := by omega
      go_wp2
      go_ret
      exact ⟨ret_int (by rw [HZ.out]), hb02.trans (hb.mono hb02.size)⟩
theorem impl_Near (A B : Option Addr) (c d : Nat) (ls : List (List (Int × Int))) (t : List (Int × Int)) (w : World) (hra : RdNS w A ls) (hrb : RdN w B t) (hl : ls.length ≤ 1000000000) (hlt : t.length ≤ 1000000000) (hn : ∀ k, k < ls.length → (nt ls k).length ≤ 1000000000) :
    Calls Try.prog 37 #[.slice A ls.length c, .slice B t.length d] w fun e w' => e = .returned (.int .i64 (nearB ls t)) ∧ Below w.heap.size w w' := by
  by_cases hok : nearOk ls t
  · rw [nearB_yes hok]; exact impl_Near_ok A B c d ls t w hra hrb hlt hn hok
  · have HV := Lib.hid (nearB_no hok)
    have HNL := Lib.hid hn
    clear hn
    by_cases h0 : ls = []
    · subst h0
      go_enter Try.func37, Try.ntmps37
      go_wp2
      go_ret
      exact ⟨ret_int HV.out.symm, Below.refl _ _⟩
    · have hl1 : 0 < ls.length := List.length_pos_iff.2 h0
      have hq0 : ((ls.length : Int) == 0) = false := by rw [beq_eq_false_iff_ne]; omega
      cases hA : areB ls 8
      · have HA := Lib.hid hA
        clear hA hok
        go_enter Try.func37, Try.ntmps37
        go_wp2_with fail
        refine (areTunes_any _ _ _ _ _ hra (by omega) HNL.out).mono ?_
        rintro e w1 ⟨rfl, hb1⟩
        rw [HA.out]
        go_wp2
        go_ret
        exact ⟨ret_int HV.out.symm, hb1⟩
      · have hB : tuneB t = false := by
          cases hB : tuneB t
          · rfl
          · unfold areB at hA
            rw [Bool.and_eq_true, decide_eq_true_eq, decide_eq_true_eq] at hA
            exact absurd ⟨⟨by omega, by omega⟩, hA.2, hB⟩ hok
        have HA := Lib.hid hA
        have HB := Lib.hid hB
        clear hA hok hB
        go_enter Try.func37, Try.ntmps37
        go_wp2_with fail
        refine (areTunes_any _ _ _ _ _ hra (by omega) HNL.out).mono ?_
        rintro e w1 ⟨rfl, hb1⟩
        rw [HA.out]
        go_wp2_with fail
        refine (impl_TuneOk _ _ _ _ (hrb.below hb1 rfl) hlt).mono ?_
        rintro e w2 ⟨rfl, hb2⟩
        rw [HB.out]
        go_wp2
        go_ret
        exact ⟨ret_int HV.out.symm, hb1.trans (hb2.mono hb1.size)⟩
end Go.Proofs.Ytajlopigpppeaaa
