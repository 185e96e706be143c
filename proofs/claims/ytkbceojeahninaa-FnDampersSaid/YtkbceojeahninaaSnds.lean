/- The pitches that sound at a time. -/
import Derived.Test.YtkbceojeahninaaSteps
import Derived.Test.YtkbceojeahninaaSounding
namespace Go.Proofs.Ytkbceojeahninaa
open Go.ChangeShapes Go.WideShapes Go.ChangeAt Go.RowKit
set_option linter.unusedVariables false
theorem tune_len2 {l : List (Int × Int)} (h : tuneB l = true) : l.length ≤ 40 := (of_decide_eq_true h : tuneP l).2
/-- The numbers below P at which f holds. -/
def selZ (f : Nat → Bool) : Nat → List Int
  | 0 => []
  | p + 1 => if f p = true then selZ f p ++ [(p : Int)] else selZ f p
theorem selZ_len (f : Nat → Bool) : ∀ p, (selZ f p).length ≤ p
  | 0 => Nat.le_refl _
  | p + 1 => by have := selZ_len f p; unfold selZ; split <;> simp <;> omega
theorem sel_yes {f : Nat → Bool} {p : Nat} (h : f p = true) : selZ f (p + 1) = selZ f p ++ [(p : Int)] := if_pos h
theorem sel_no {f : Nat → Bool} {p : Nat} (h : f p = false) : selZ f (p + 1) = selZ f p := if_neg (by rw [h]; simp)
theorem sel_congr {f g : Nat → Bool} : ∀ P, (∀ p, p < P → f p = g p) → selZ f P = selZ g P
  | 0, _ => rfl
  | P + 1, h => by unfold selZ; rw [h P (by omega), sel_congr P (fun p hp => h p (by omega))]
theorem pitZ_sel (l : List (Int × Int)) : ∀ P, pitZ l P = selZ (fun p => hasP l (p : Int) l.length) P
  | 0 => rfl
  | P + 1 => by unfold pitZ selZ; rw [pitZ_sel l P]
theorem hasP_mem {l : List (Int × Int)} {p : Int} : hasP l p l.length = true ↔ ∃ x ∈ l, x.2 = p := by
  rw [hasP_iff]
  constructor
  · rintro ⟨k, hk, h⟩
    exact ⟨l[k], List.getElem_mem hk, by rw [← h]; simp [pt, List.getD, hk]⟩
  · rintro ⟨x, hx, h⟩
    obtain ⟨k, hk, rfl⟩ := List.getElem_of_mem hx
    exact ⟨k, hk, by rw [← h]; simp [pt, List.getD, hk]⟩
theorem sndZ_mem {l : List (Int × Int)} {L T : Int} {x : Int × Int} : ∀ n, x ∈ sndZ l L T n ↔ ∃ k, k < n ∧ x = (tm l k, pt l k) ∧ sndP (tm l k) L T
  | 0 => by simp [sndZ]
  | n + 1 => by
    unfold sndZ
    by_cases h : sndP (tm l n) L T
    · rw [if_pos h, List.mem_append, sndZ_mem n, List.mem_singleton]
      constructor
      · rintro (⟨k, hk, h1⟩ | h1)
        · exact ⟨k, by omega, h1⟩
        · exact ⟨n, by omega, h1, h⟩
      · rintro ⟨k, hk, h1, h2⟩
        by_cases e : k = n
        · subst e; exact Or.inr h1
        · exact Or.inl ⟨k, by omega, h1, h2⟩
    · rw [if_neg h, sndZ_mem n]
      constructor
      · rintro ⟨k, hk, h1⟩
        exact ⟨k, by omega, h1⟩
      · rintro ⟨k, hk, h1, h2⟩
        by_cases e : k = n
        · subst e; exact absurd h2 h
        · exact ⟨k, by omega, h1, h2⟩
/-- A note of this pitch sounds, among the first n. -/
def souF (l : List (Int × Int)) (L T p : Int) : Nat → Bool
  | 0 => false
  | k + 1 => souF l L T p k || (decide (pt l k = p) && decide (sndP (tm l k) L T))
theorem souF_keep {l : List (Int × Int)} {L T p : Int} {k : Nat} (h : souF l L T p k = true) : souF l L T p (k + 1) = true := by show (_ || _) = _; rw [h]; rfl
theorem souF_yes {l : List (Int × Int)} {L T p : Int} {k : Nat} (h1 : pt l k = p) (h2 : sndP (tm l k) L T) : souF l L T p (k + 1) = true := by
  show (_ || _) = _; rw [decide_eq_true h1, decide_eq_true h2]; simp
theorem souF_no {l : List (Int × Int)} {L T p : Int} {k : Nat} (h0 : souF l L T p k = false) (h : ¬ (pt l k = p ∧ sndP (tm l k) L T)) : souF l L T p (k + 1) = false := by
  show (_ || _) = _; rw [h0, ← Bool.decide_and, decide_eq_false h]; rfl
theorem souF_iff {l : List (Int × Int)} {L T p : Int} : ∀ n, souF l L T p n = true ↔ ∃ k, k < n ∧ pt l k = p ∧ sndP (tm l k) L T
  | 0 => by simp [souF]
  | n + 1 => by
    unfold souF
    rw [Bool.or_eq_true, souF_iff n, Bool.and_eq_true, decide_eq_true_eq, decide_eq_true_eq]
    constructor
    · rintro (⟨k, hk, h⟩ | h)
      · exact ⟨k, by omega, h⟩
      · exact ⟨n, by omega, h⟩
    · rintro ⟨k, hk, h⟩
      by_cases e : k = n
      · subst e; exact Or.inr h
      · exact Or.inl ⟨k, by omega, h⟩
theorem sou_eq (l : List (Int × Int)) (L T : Int) : pitZ (sndZ l L T l.length) 61 = selZ (fun p => souF l L T (p : Int) l.length) 61 := by
  rw [pitZ_sel]
  apply sel_congr
  intro p _
  rw [Bool.eq_iff_iff, hasP_mem, souF_iff]
  constructor
  · rintro ⟨x, hx, h⟩
    obtain ⟨k, hk, rfl, hs⟩ := (sndZ_mem _).1 hx
    exact ⟨k, hk, h, hs⟩
  · rintro ⟨k, hk, h, hs⟩
    exact ⟨_, (sndZ_mem _).2 ⟨k, hk, rfl, hs⟩, h⟩
def souOk (l : List (Int × Int)) (T L : Int) : Prop := tuneB l = true ∧ (0 ≤ T ∧ T ≤ 2000) ∧ 1 ≤ L ∧ L ≤ 100
noncomputable instance (l : List (Int × Int)) (T L : Int) : Decidable (souOk l T L) := Classical.propDecidable _
noncomputable def souB (l : List (Int × Int)) (T L : Int) : List Int := if souOk l T L then selZ (fun p => souF l L T (p : Int) l.length) 61 else []
theorem souB_yes {l : List (Int × Int)} {T L : Int} (h : souOk l T L) : souB l T L = selZ (fun p => souF l L T (p : Int) l.length) 61 := if_pos h
theorem souB_no {l : List (Int × Int)} {T L : Int} (h : ¬ souOk l T L) : souB l T L = [] := if_neg h
theorem souB_len (l : List (Int × Int)) (T L : Int) : (souB l T L).length ≤ 61 := by
  unfold souB; split
  · exact selZ_len _ _
  · simp
attribute [local irreducible] tm pt sndZ in
set_option maxHeartbeats 800000 in
theorem impl_sounding2 (A : Option Addr) (c : Nat) (l : List (Int × Int)) (T L : Int) (w : World) (hrd : RdN w A l) (hl : l.length ≤ 1000000000) (hT : 0 ≤ T ∧ T ≤ 2000) (hL : 1 ≤ L ∧ L ≤ 100) :
    Calls Try.prog 59 #[.slice A l.length c, .int .i64 T, .int .i64 L] w (RetN 37 w.heap.size (sndZ l L T l.length) w) := by
  go_enter Try.func59, Try.ntmps59
  go_wp2
  go_loopw [7, 13] (fun v i wr => ∃ k : Nat, k ≤ l.length ∧ i = .int .i64 k ∧ OwnN 37 w.heap.size wr v (sndZ l L T k) ∧ Below w.heap.size w wr) (fun _ i _ => l.length - (intOf i).toNat)
  case atStart => exact ⟨0, by omega, rfl, by rw [show sndZ l L T 0 = [] by unfold sndZ; rfl]; exact OwnN.lit0 _ _, (Below.refl _ _).alloc (Nat.le_refl _) _⟩
  case round =>
    obtain ⟨k, hk, rfl, hown, hb⟩ := hrel
    by_cases hlt : k < l.length
    · have hlen := sndZ_len l L T k
      obtain ⟨b, o, rfl, lb, hcl⟩ := hrd (by omega)
      have k1 := (hb.cell (p := ⟨b, o + k * 2, none⟩) lb).trans (hcl k hlt).1
      have k3 := (hb.cell (p := ⟨b, o + k * 2 + 1, none⟩) lb).trans (hcl k hlt).2
      have hBs : w.heap.size ≤ wr.heap.size := hb.size
      obtain ⟨W, hW⟩ : ∃ W, W = wr.alloc (Obj.cells #[.int .i64 (tm l k), .int .i64 (pt l k)] 37) := ⟨_, rfl⟩
      have hBW : Below wr.heap.size wr W := by rw [hW]; exact (Below.refl _ _).alloc (Nat.le_refl _) _
      have n1 : W.cell? ⟨wr.heap.size, 0, none⟩ = some (.int .i64 (tm l k)) := by rw [hW]; simp [go_sem]
      have n2 : W.cell? ⟨wr.heap.size, 1, none⟩ = some (.int .i64 (pt l k)) := by rw [hW]; simp [go_sem]
      have ho2 := hown.below hBW rfl
      have hbW := hb.trans (hBW.mono hBs)
      have hBs2 : w.heap.size ≤ W.heap.size := hbW.size
      have HW := Lib.hid hW
      clear hW hBW hcl hrd
      by_cases hs : sndP (tm l k) L T
      · have HY := Lib.hid (snd_yes hs)
        unfold sndP at hs
        go_wp2_with fail
        rw [← HW.out]
        refine (wi_yes _ _ _ _ hs).mono ?_
        rintro e wz ⟨rfl, rfl⟩
        go_wp2_with (at_builtin; refine app_pair rfl _ _ 32 rfl 37 Try.underlying32 (by kernel_rfl) w.heap.size _ (sndZ l L T k) (tm l k) (pt l k) ho2 rfl rfl (by omega) hBs2 ?_; intro v' w2 hown1 hb2)
        go_roundw
        case rel => exact ⟨k + 1, by omega, by go_num, by rw [HY.out]; exact hown1, hbW.trans hb2⟩
        case measure => simp [intOf]; omega
      · have HY := Lib.hid (snd_no hs)
        unfold sndP at hs
        go_wp2_with fail
        rw [← HW.out]
        refine (wi_no _ _ _ _ hs).mono ?_
        rintro e wz ⟨rfl, rfl⟩
        go_wp2
        go_roundw
        case rel => exact ⟨k + 1, by omega, by go_num, by rw [HY.out]; exact ho2, hbW⟩
        case measure => simp [intOf]; omega
    · obtain rfl : k = l.length := by omega
      go_wp2
      go_ret
      exact RetN.mk hown hb
attribute [local irreducible] tm pt sndZ pitZ tuneB selZ souF in
set_option maxHeartbeats 800000 in
theorem impl_SoundsAt (A : Option Addr) (c : Nat) (l : List (Int × Int)) (T L : Int) (w : World) (hrd : RdN w A l) (hl : l.length ≤ 1000000000) :
    Calls Try.prog 19 #[.slice A l.length c, .int .i64 T, .int .i64 L] w (RetI 3 w.heap.size (souB l T L) w) := by
  by_cases hok : souOk l T L
  · have HV := Lib.hid (souB_yes hok)
    have HE := Lib.hid (sou_eq l L T)
    obtain ⟨hB, hT, hL⟩ := hok
    have HB := Lib.hid hB
    have hl40 := tune_len2 hB
    clear hB
    have hsl := sndZ_len l L T l.length
    go_enter Try.func19, Try.ntmps19
    go_wp2_with fail
    refine (impl_TuneOk _ _ _ _ hrd (by omega)).mono ?_
    rintro e w1 ⟨rfl, hb1⟩
    rw [HB.out]
    have hr1 := hrd.below hb1 rfl
    clear hrd
    go_wp2_with (go_at_call 53; refine (wi_yes _ _ _ _ (by assumption)).mono ?_; rintro e wz ⟨rfl, rfl⟩)
    refine (impl_sounding2 _ _ _ _ _ _ hr1 (by omega) hT hL).mono ?_
    rintro e w2 ⟨A2, c2, rfl, ho, _, _, _, hr2, hb2⟩
    have hb3 := hb1.trans (hb2.mono hb1.size)
    clear ho
    go_wp2_with fail
    refine (pitchesOf_one w2.heap.size A2 c2 (sndZ l L T l.length) _ (by simp [go_sem]) (by simp) (rdn_alloc2 hr2 _) (by omega)).mono ?_
    rintro e w3 ⟨A3, c3, rfl, ho3, _, _, _, _, hb4⟩
    have hb5 : Below w.heap.size w w3 := (hb3.alloc hb3.size _).trans (hb4.mono (by simp; exact Nat.le_succ_of_le hb3.size))
    have HO := Lib.hid (ho3.base_le (B' := w.heap.size) (by simp; exact Nat.le_succ_of_le hb3.size))
    have hB5 := Lib.hid hb5
    clear ho3 hb4 hb5
    go_wp2
    go_ret
    rw [HV.out, ← HE.out]
    exact RetI.mk HO.out hB5.out
  · have HV := Lib.hid (souB_no hok)
    cases hB : tuneB l
    · have HB := Lib.hid hB
      clear hB hok
      go_enter Try.func19, Try.ntmps19
      go_wp2_with fail
      refine (impl_TuneOk _ _ _ _ hrd (by omega)).mono ?_
      rintro e w1 ⟨rfl, hb1⟩
      rw [HB.out]
      go_wp2
      go_ret
      rw [HV.out]
      exact RetI.mk (OwnI.nil0 _ _ _) hb1
    · have HB := Lib.hid hB
      by_cases hT : 0 ≤ T ∧ T ≤ 2000
      · have hL : ¬ (1 ≤ L ∧ L ≤ 100) := fun h => hok ⟨hB, hT, h⟩
        clear hB hok
        go_enter Try.func19, Try.ntmps19
        go_wp2_with fail
        refine (impl_TuneOk _ _ _ _ hrd (by omega)).mono ?_
        rintro e w1 ⟨rfl, hb1⟩
        rw [HB.out]
        go_wp2_with fail
        refine (wi_yes _ _ _ _ hT).mono ?_
        rintro e wz ⟨rfl, rfl⟩
        go_wp2_with fail
        refine (wi_no _ _ _ _ hL).mono ?_
        rintro e wz ⟨rfl, rfl⟩
        go_wp2
        go_ret
        rw [HV.out]
        exact RetI.mk (OwnI.nil0 _ _ _) hb1
      · clear hB hok
        go_enter Try.func19, Try.ntmps19
        go_wp2_with fail
        refine (impl_TuneOk _ _ _ _ hrd (by omega)).mono ?_
        rintro e w1 ⟨rfl, hb1⟩
        rw [HB.out]
        go_wp2_with fail
        refine (wi_no _ _ _ _ hT).mono ?_
        rintro e wz ⟨rfl, rfl⟩
        go_wp2
        go_ret
        rw [HV.out]
        exact RetI.mk (OwnI.nil0 _ _ _) hb1
end Go.Proofs.Ytkbceojeahninaa
