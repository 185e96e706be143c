/- How many notes of a tune are not of a major scale. -/
import Derived.Test.YtjfaodbjmanfnaaBase
import Derived.Test.YtjfaodbjmanfnaaIn
import Derived.Test.YtjfaodbjmanfnaaTune
import Derived.Test.YtjfaodbjmanfnaaSounding
import Derived.Test.YtjfaodbjmanfnaaScaleB
import Derived.Test.YtjfaodbjmanfnaaRows
import Derived.Deep.RegionHeld3
import Derived.WalkSpells
import Derived.Outline
namespace Go.Proofs.Ytjfaodbjmanfnaa
open Go.ChangeShapes Go.WideShapes Go.ChangeAt Go.RowKit
set_option linter.unusedVariables false
theorem heldO_keep {w v u : World} {p : Addr} {x : Value} (lp : p.block < w.heap.size) (h : v.cell? p = some x ∧ Below w.heap.size w v) (hb : Below v.heap.size v u) : u.cell? p = some x ∧ Below w.heap.size w u := by
  have hs := h.2.size
  exact ⟨(hb.cell (by omega)).trans h.1, h.2.trans (hb.mono hs)⟩
theorem heldO_start {w v : World} {p : Addr} {x : Value} (h : w.cell? p = some x) (hv : v = w.drew) : v.cell? p = some x ∧ Below w.heap.size w v := by
  subst hv; exact ⟨h, (Below.refl _ _).drew⟩
def bitN (M : Nat) (x : Int) : Nat := (M >>> (x % 12).toNat) &&& 1
def wrZ (l : List (Int × Int)) (M : Nat) : Nat → Int
  | 0 => 0
  | k + 1 => if bitN M (pt l k) = 0 then wrZ l M k + 1 else wrZ l M k
theorem wrZ_rng (l : List (Int × Int)) (M : Nat) : ∀ k, 0 ≤ wrZ l M k ∧ wrZ l M k ≤ (k : Int)
  | 0 => ⟨Int.le_refl _, Int.le_refl _⟩
  | k + 1 => by have := wrZ_rng l M k; unfold wrZ; split <;> omega
theorem wrZ_yes {l : List (Int × Int)} {M k : Nat} (h : bitN M (pt l k) = 0) : wrZ l M (k + 1) = wrZ l M k + 1 := if_pos h
theorem wrZ_no {l : List (Int × Int)} {M k : Nat} (h : ¬ bitN M (pt l k) = 0) : wrZ l M (k + 1) = wrZ l M k := if_neg h
theorem bit_val (M q : Nat) (hM : M < 4096) (hq : q ≤ 64) : bits BinOp.and IntKind.i64 ((M : Int) / 2 ^ min q 64) 1 = (((M >>> q) &&& 1 : Nat) : Int) := by
  rw [Nat.min_eq_left hq]
  have h : (M : Int) / 2 ^ q = ((M >>> q : Nat) : Int) := by rw [Nat.shiftRight_eq_div_pow]; simp
  rw [h, show (1 : Int) = ((1 : Nat) : Int) from rfl, and_nat _ _ (by have := Nat.shiftRight_le M q; omega) (by omega)]
theorem and_one (a : Nat) : a &&& 1 = 0 ∨ a &&& 1 = 1 := by rw [Nat.and_one_is_mod]; omega
def majN (r : Int) : Nat := rotN 2741 r.toNat
theorem majN_eq {r : Int} (h : 0 ≤ r ∧ r ≤ 11) : rotZ 2741 r = (majN r : Int) := by
  unfold rotZ majN; rw [if_pos ⟨by omega, by omega, h.1, h.2⟩]; rfl
theorem majN_lt {r : Int} (h : 0 ≤ r ∧ r ≤ 11) : majN r < 4096 := by
  unfold majN
  have hh : ∀ n, n < 12 → rotN 2741 n < 4096 := by decide
  exact hh _ (by omega)
noncomputable instance wroDec (l : List (Int × Int)) (r : Int) : Decidable (tuneB l = true ∧ 0 ≤ r ∧ r ≤ 11) := Classical.propDecidable _
noncomputable def wroB (l : List (Int × Int)) (r : Int) : Int := if tuneB l = true ∧ 0 ≤ r ∧ r ≤ 11 then wrZ l (majN r) l.length else -1
theorem tmod12 {x : Int} (h : 0 ≤ x) : x.tmod 12 = ((x % 12).toNat : Int) := by rw [Int.tmod_eq_emod_of_nonneg h]; omega
attribute [local irreducible] tm pt tuneB rotN rotZ wrZ majN in
set_option maxHeartbeats 1600000 in
theorem spec_Wrong_ok (A : Option Addr) (c : Nat) (l : List (Int × Int)) (r : Int) (w : World) (hrd : RdN w A l) (hl : l.length ≤ 1000000000) (hB : tuneB l = true) (hr : 0 ≤ r ∧ r ≤ 11) :
    Calls Try.prog 85 #[.slice A l.length c, .int .i64 r] w fun e w' => e = .returned (.int .i64 (wrZ l (majN r) l.length)) ∧ Below w.heap.size w w' := by
  have HB := Lib.hid hB
  have HT := Lib.hid (fun k (hk : k < l.length) => pt_rng hB hk)
  have HMl := Lib.hid (majN_lt hr)
  have HMe := Lib.hid (majN_eq hr)
  obtain ⟨M, hM⟩ : ∃ M, M = majN r := ⟨_, rfl⟩
  rw [← hM] at HMl HMe ⊢
  clear hB hM
  go_enter Try.func85, Try.ntmps85
  go_wp2_with fail
  refine (spec_TuneOk _ _ _ _ hrd (by omega)).mono ?_
  rintro e w1 ⟨rfl, hb1⟩
  rw [HB.out]
  have hr1 := hrd.below hb1 rfl
  clear hrd
  go_wp2_with (go_at_call 76; refine (in_yes _ _ _ _ hr).mono ?_; rintro e wz ⟨rfl, rfl⟩)
  go_loopw [5, 6] (fun q i wr => ∃ k : Nat, k ≤ l.length ∧ i = .int .i64 k ∧ q = .int .i64 (wrZ l M k) ∧ Below w1.heap.size w1 wr) (fun _ i _ => l.length - (intOf i).toNat)
  case atStart => exact ⟨0, by omega, rfl, by unfold wrZ; rfl, Below.refl _ _⟩
  case round =>
    obtain ⟨k, hk, rfl, rfl, hb⟩ := hrel
    by_cases hlt : k < l.length
    · have hX := HT.out k hlt
      have hn := wrZ_rng l M k
      obtain ⟨b, o, rfl, lb, hcl⟩ := hr1 (by omega)
      have k1 := (hb.cell (p := ⟨b, o + k * 2 + 1, none⟩) lb).trans (hcl k hlt).2
      have mb : b < wr.heap.size := Nat.lt_of_lt_of_le lb hb.size
      have h0i : (0 : Int) ≤ (k : Int) := by omega
      have h0j : (k : Int) < (l.length : Int) := by omega
      obtain ⟨q, hq⟩ : ∃ q : Nat, q = (pt l k % 12).toNat := ⟨_, rfl⟩
      have HQ := Lib.hid (show (pt l k).tmod 12 = (q : Int) by rw [hq]; exact tmod12 hX.1)
      have hbv := bit_val M q HMl.out (by omega)
      clear hcl hr1
      rcases and_one (M >>> q) with hz | hz
      · have HN := Lib.hid (wrZ_yes (l := l) (M := M) (k := k) (by unfold bitN; rw [← hq]; exact hz))
        rw [hz] at hbv
        have HV := Lib.hid (show (bits BinOp.and IntKind.i64 ((M : Int) / 2 ^ min q 64) 1 == 0) = true by rw [hbv]; rfl)
        clear hbv hz hq
        go_wp2_with fail
        have hwr := HQ.out
        go_region_held3 (fun w' => w'.cell? ⟨b, o + k * 2 + 1, none⟩ = some (.int .i64 (pt l k)) ∧ Below wr.heap.size wr w') (first | exact heldO_start k1 rfl | exact heldO_keep mb (by assumption) hbz)
          (first | (go_at_call 91; refine (spec_Major _ _).mono ?_; rintro e wz ⟨rfl, hbz⟩; rw [HMe.out]))
        clear hwr
        rename_i hH
        have hb2 := hb.trans (hH.2.mono hb.size)
        have hvv := HV.out
        go_wp2
        clear hvv
        go_roundw
        case rel => exact ⟨k + 1, by omega, by go_num, by rw [HN.out], hb2⟩
        case measure => simp [intOf]; omega
      · have HN := Lib.hid (wrZ_no (l := l) (M := M) (k := k) (by unfold bitN; rw [← hq]; omega))
        rw [hz] at hbv
        have HV := Lib.hid (show (bits BinOp.and IntKind.i64 ((M : Int) / 2 ^ min q 64) 1 == 0) = false by rw [hbv]; rfl)
        clear hbv hz hq
        go_wp2_with fail
        have hwr := HQ.out
        go_region_held3 (fun w' => w'.cell? ⟨b, o + k * 2 + 1, none⟩ = some (.int .i64 (pt l k)) ∧ Below wr.heap.size wr w') (first | exact heldO_start k1 rfl | exact heldO_keep mb (by assumption) hbz)
          (first | (go_at_call 91; refine (spec_Major _ _).mono ?_; rintro e wz ⟨rfl, hbz⟩; rw [HMe.out]))
        clear hwr
        rename_i hH
        have hb2 := hb.trans (hH.2.mono hb.size)
        have hvv := HV.out
        go_wp2
        clear hvv
        go_roundw
        case rel => exact ⟨k + 1, by omega, by go_num, by rw [HN.out], hb2⟩
        case measure => simp [intOf]; omega
    · obtain rfl : k = l.length := by omega
      go_wp2
      go_ret
      exact ⟨rfl, hb1.trans (hb.mono hb1.size)⟩
attribute [local irreducible] tm pt tuneB rotN rotZ wrZ majN in
set_option maxHeartbeats 1600000 in
theorem impl_Wrong_ok (A : Option Addr) (c : Nat) (l : List (Int × Int)) (r : Int) (w : World) (hrd : RdN w A l) (hl : l.length ≤ 1000000000) (hB : tuneB l = true) (hr : 0 ≤ r ∧ r ≤ 11) :
    Calls Try.prog 62 #[.slice A l.length c, .int .i64 r] w fun e w' => e = .returned (.int .i64 (wrZ l (majN r) l.length)) ∧ Below w.heap.size w w' := by
  have HB := Lib.hid hB
  have HT := Lib.hid (fun k (hk : k < l.length) => pt_rng hB hk)
  have HMl := Lib.hid (majN_lt hr)
  have HMe := Lib.hid (majN_eq hr)
  obtain ⟨M, hM⟩ : ∃ M, M = majN r := ⟨_, rfl⟩
  rw [← hM] at HMl HMe ⊢
  clear hB hM
  go_enter Try.func62, Try.ntmps62
  go_wp2_with fail
  refine (impl_TuneOk _ _ _ _ hrd (by omega)).mono ?_
  rintro e w1 ⟨rfl, hb1⟩
  rw [HB.out]
  have hr1 := hrd.below hb1 rfl
  clear hrd
  go_wp2_with (go_at_call 73; refine (wi_yes _ _ _ _ hr).mono ?_; rintro e wz ⟨rfl, rfl⟩)
  go_loopw [5, 18] (fun q i wr => ∃ k : Nat, k ≤ l.length ∧ i = .int .i64 k ∧ q = .int .i64 (wrZ l M k) ∧ Below w1.heap.size w1 wr) (fun _ i _ => l.length - (intOf i).toNat)
  case atStart => exact ⟨0, by omega, rfl, by unfold wrZ; rfl, Below.refl _ _⟩
  case round =>
    obtain ⟨k, hk, rfl, rfl, hb⟩ := hrel
    by_cases hlt : k < l.length
    · have hX := HT.out k hlt
      have hn := wrZ_rng l M k
      obtain ⟨b, o, rfl, lb, hcl⟩ := hr1 (by omega)
      have k1 := (hb.cell (p := ⟨b, o + k * 2 + 1, none⟩) lb).trans (hcl k hlt).2
      have k0 := (hb.cell (p := ⟨b, o + k * 2, none⟩) lb).trans (hcl k hlt).1
      have hBs : w1.heap.size ≤ wr.heap.size := hb.size
      obtain ⟨W, hW⟩ : ∃ W, W = wr.alloc (Obj.cells #[.int .i64 (tm l k), .int .i64 (pt l k)] 39) := ⟨_, rfl⟩
      have hBW : Below wr.heap.size wr W := by rw [hW]; exact (Below.refl _ _).alloc (Nat.le_refl _) _
      have n2 : W.cell? ⟨wr.heap.size, 1, none⟩ = some (.int .i64 (pt l k)) := by rw [hW]; simp [go_sem]
      have nb : wr.heap.size < W.heap.size := by rw [hW]; simp
      have hbW := hb.trans (hBW.mono hBs)
      have HW := Lib.hid hW
      clear hW hBW
      have h0i : (0 : Int) ≤ (k : Int) := by omega
      have h0j : (k : Int) < (l.length : Int) := by omega
      obtain ⟨q, hq⟩ : ∃ q : Nat, q = (pt l k % 12).toNat := ⟨_, rfl⟩
      have HQ := Lib.hid (show (pt l k).tmod 12 = (q : Int) by rw [hq]; exact tmod12 hX.1)
      have hbv := bit_val M q HMl.out (by omega)
      clear hcl hr1
      rcases and_one (M >>> q) with hz | hz
      · have HN := Lib.hid (wrZ_yes (l := l) (M := M) (k := k) (by unfold bitN; rw [← hq]; exact hz))
        rw [hz] at hbv
        have HV := Lib.hid (show (bits BinOp.and IntKind.i64 ((M : Int) / 2 ^ min q 64) 1 == 0) = true by rw [hbv]; rfl)
        clear hbv hz hq
        go_wp2_with fail
        rw [← HW.out]
        have hwr := HQ.out
        go_region_held3 (fun w' => w'.cell? ⟨wr.heap.size, 1, none⟩ = some (.int .i64 (pt l k)) ∧ Below W.heap.size W w') (first | exact heldO_start n2 rfl | exact heldO_keep nb (by assumption) hbz)
          (first | (go_at_call 63; refine (impl_Major _ _).mono ?_; rintro e wz ⟨rfl, hbz⟩; rw [HMe.out]))
        clear hwr
        rename_i hH
        have hb2 := hbW.trans (hH.2.mono hbW.size)
        have hvv := HV.out
        go_wp2
        clear hvv
        go_roundw
        case rel => exact ⟨k + 1, by omega, by go_num, by rw [HN.out], hb2⟩
        case measure => simp [intOf]; omega
      · have HN := Lib.hid (wrZ_no (l := l) (M := M) (k := k) (by unfold bitN; rw [← hq]; omega))
        rw [hz] at hbv
        have HV := Lib.hid (show (bits BinOp.and IntKind.i64 ((M : Int) / 2 ^ min q 64) 1 == 0) = false by rw [hbv]; rfl)
        clear hbv hz hq
        go_wp2_with fail
        rw [← HW.out]
        have hwr := HQ.out
        go_region_held3 (fun w' => w'.cell? ⟨wr.heap.size, 1, none⟩ = some (.int .i64 (pt l k)) ∧ Below W.heap.size W w') (first | exact heldO_start n2 rfl | exact heldO_keep nb (by assumption) hbz)
          (first | (go_at_call 63; refine (impl_Major _ _).mono ?_; rintro e wz ⟨rfl, hbz⟩; rw [HMe.out]))
        clear hwr
        rename_i hH
        have hb2 := hbW.trans (hH.2.mono hbW.size)
        have hvv := HV.out
        go_wp2
        clear hvv
        go_roundw
        case rel => exact ⟨k + 1, by omega, by go_num, by rw [HN.out], hb2⟩
        case measure => simp [intOf]; omega
    · obtain rfl : k = l.length := by omega
      go_wp2
      go_ret
      exact ⟨rfl, hb1.trans (hb.mono hb1.size)⟩
theorem spec_Wrong_no (A : Option Addr) (c : Nat) (l : List (Int × Int)) (r : Int) (w : World) (hrd : RdN w A l) (hl : l.length ≤ 1000000000) (h : ¬ (tuneB l = true ∧ 0 ≤ r ∧ r ≤ 11)) :
    Calls Try.prog 85 #[.slice A l.length c, .int .i64 r] w fun e w' => e = .returned (.int .i64 (-1)) ∧ Below w.heap.size w w' := by
  cases hB : tuneB l
  · have HB := Lib.hid hB
    clear h hB
    go_enter Try.func85, Try.ntmps85
    go_wp2_with fail
    refine (spec_TuneOk _ _ _ _ hrd (by omega)).mono ?_
    rintro e w1 ⟨rfl, hb1⟩
    rw [HB.out]
    go_wp2
    go_ret
    exact ⟨rfl, hb1⟩
  · have HB := Lib.hid hB
    have hr : ¬ (0 ≤ r ∧ r ≤ 11) := fun hr => h ⟨hB, hr⟩
    clear h hB
    go_enter Try.func85, Try.ntmps85
    go_wp2_with fail
    refine (spec_TuneOk _ _ _ _ hrd (by omega)).mono ?_
    rintro e w1 ⟨rfl, hb1⟩
    rw [HB.out]
    go_wp2_with (go_at_call 76; refine (in_no _ _ _ _ hr).mono ?_; rintro e wz ⟨rfl, rfl⟩)
    go_ret
    exact ⟨rfl, hb1⟩
theorem spec_WrongNotes (A : Option Addr) (c : Nat) (l : List (Int × Int)) (r : Int) (w : World) (hrd : RdN w A l) (hl : l.length ≤ 1000000000) :
    Calls Try.prog 85 #[.slice A l.length c, .int .i64 r] w fun e w' => e = .returned (.int .i64 (wroB l r)) ∧ Below w.heap.size w w' := by
  unfold wroB
  by_cases h : tuneB l = true ∧ 0 ≤ r ∧ r ≤ 11
  · rw [if_pos h]; exact spec_Wrong_ok A c l r w hrd hl h.1 h.2
  · rw [if_neg h]; exact spec_Wrong_no A c l r w hrd hl h
theorem impl_Wrong_no (A : Option Addr) (c : Nat) (l : List (Int × Int)) (r : Int) (w : World) (hrd : RdN w A l) (hl : l.length ≤ 1000000000) (h : ¬ (tuneB l = true ∧ 0 ≤ r ∧ r ≤ 11)) :
    Calls Try.prog 62 #[.slice A l.length c, .int .i64 r] w fun e w' => e = .returned (.int .i64 (-1)) ∧ Below w.heap.size w w' := by
  cases hB : tuneB l
  · have HB := Lib.hid hB
    clear h hB
    go_enter Try.func62, Try.ntmps62
    go_wp2_with fail
    refine (impl_TuneOk _ _ _ _ hrd (by omega)).mono ?_
    rintro e w1 ⟨rfl, hb1⟩
    rw [HB.out]
    go_wp2
    go_ret
    exact ⟨rfl, hb1⟩
  · have HB := Lib.hid hB
    have hr : ¬ (0 ≤ r ∧ r ≤ 11) := fun hr => h ⟨hB, hr⟩
    clear h hB
    go_enter Try.func62, Try.ntmps62
    go_wp2_with fail
    refine (impl_TuneOk _ _ _ _ hrd (by omega)).mono ?_
    rintro e w1 ⟨rfl, hb1⟩
    rw [HB.out]
    go_wp2_with (go_at_call 73; refine (wi_no _ _ _ _ hr).mono ?_; rintro e wz ⟨rfl, rfl⟩)
    go_ret
    exact ⟨rfl, hb1⟩
theorem impl_WrongNotes (A : Option Addr) (c : Nat) (l : List (Int × Int)) (r : Int) (w : World) (hrd : RdN w A l) (hl : l.length ≤ 1000000000) :
    Calls Try.prog 62 #[.slice A l.length c, .int .i64 r] w fun e w' => e = .returned (.int .i64 (wroB l r)) ∧ Below w.heap.size w w' := by
  unfold wroB
  by_cases h : tuneB l = true ∧ 0 ≤ r ∧ r ≤ 11
  · rw [if_pos h]; exact impl_Wrong_ok A c l r w hrd hl h.1 h.2
  · rw [if_neg h]; exact impl_Wrong_no A c l r w hrd hl h
end Go.Proofs.Ytjfaodbjmanfnaa
