/- A part of a tune. -/
import Derived.Test.YtjfaodbjmanfnaaBase
import Derived.Test.YtjfaodbjmanfnaaIn
import Derived.Test.YtjfaodbjmanfnaaTune
import Derived.Test.YtjfaodbjmanfnaaRows
import Derived.Outline
namespace Go.Proofs.Ytjfaodbjmanfnaa
open Go.ChangeShapes Go.WideShapes Go.ChangeAt Go.RowKit
set_option linter.unusedVariables false
theorem copyNotes_any (A : Option Addr) (c : Nat) (l : List (Int × Int)) (w : World) (hrd : RdN w A l) (hl : l.length ≤ 1000000000) (hA : A = none → c = 0) :
    Calls Try.prog 74 #[.slice A l.length c] w (RetN 39 w.heap.size l w) := by
  have hrd1 := fun (o : Obj) => hrd.below ((Below.refl _ _).alloc (Nat.le_refl _) o) rfl
  go_enter Try.func74, Try.ntmps74
  go_wp2_with (at_builtin; refine app_pairs rfl _ _ 24 rfl 39 Try.underlying24 (by kernel_rfl) w.heap.size _ [] l A c (OwnN.lit0 w 39) (hrd1 _) rfl rfl (by simpa using hl) (by simp) hA ?_; intro v' w1 hown1 hb1)
  go_ret
  rw [List.nil_append] at hown1
  exact RetN.mk hown1 (((Below.refl _ _).alloc (Nat.le_refl _) _).trans hb1)
theorem l02Copy_any (A : Option Addr) (c : Nat) (l : List (Int × Int)) (w : World) (hrd : RdN w A l) (hl : l.length ≤ 1000000000) (hA : A = none → c = 0) :
    Calls Try.prog 77 #[.slice A l.length c] w (RetN 39 w.heap.size l w) := by
  have hrd1 := fun (o : Obj) => hrd.below ((Below.refl _ _).alloc (Nat.le_refl _) o) rfl
  go_enter Try.func77, Try.ntmps77
  go_wp2_with (at_builtin; refine app_pairs rfl _ _ 24 rfl 39 Try.underlying24 (by kernel_rfl) w.heap.size _ [] l A c (OwnN.lit0 w 39) (hrd1 _) rfl rfl (by simpa using hl) (by simp) hA ?_; intro v' w1 hown1 hb1)
  go_ret
  rw [List.nil_append] at hown1
  exact RetN.mk hown1 (((Below.refl _ _).alloc (Nat.le_refl _) _).trans hb1)
def subL (l : List (Int × Int)) (f n : Nat) : List (Int × Int) := (l.drop f).take n
theorem subL_len {l : List (Int × Int)} {f n : Nat} (h : f + n ≤ l.length) : (subL l f n).length = n := by unfold subL; simp; omega
theorem subL_get {l : List (Int × Int)} {f n j : Nat} (h : j < n) : (subL l f n).getD j (0, 0) = l.getD (f + j) (0, 0) := by
  unfold subL
  simp [List.getD, h]
theorem subL_map {w : World} {A : Option Addr} {l : List (Int × Int)} {f n : Nat} (h : f + n ≤ l.length) (hrd : RdN w A l) : RdN w (Option.map (fun x => x.add (f * 2)) A) (subL l f n) := by
  intro hp
  rw [subL_len h] at hp
  obtain ⟨b, off, rfl, hb, hc⟩ := hrd (by omega)
  have hadd : (⟨b, off, none⟩ : Addr).add (f * 2) = ⟨b, off + f * 2, none⟩ := by
    unfold Addr.add
    split
    · rename_i h; rw [h]; rfl
    · rfl
  refine ⟨b, off + f * 2, congrArg some hadd, hb, fun j hj => ?_⟩
  rw [subL_len h] at hj
  have hx := hc (f + j) (by omega)
  unfold tm pt at hx ⊢
  rw [subL_get hj, show off + f * 2 + j * 2 = off + (f + j) * 2 by omega]
  exact hx
theorem subL_none {w : World} {A : Option Addr} {l : List (Int × Int)} {f : Nat} : RdN w A (subL l f 0) := fun h => by simp [subL] at h
def parP (l : List (Int × Int)) (f n : Int) : Prop := (0 ≤ f ∧ f ≤ (l.length : Int)) ∧ (0 ≤ n ∧ n ≤ (l.length : Int) - f)
attribute [local irreducible] tm pt tuneB subL in
set_option maxHeartbeats 800000 in
theorem impl_PartOf_yes (A : Option Addr) (c : Nat) (l : List (Int × Int)) (f n : Nat) (w : World) (hrd : RdN w A l) (hc : l.length ≤ c) (hcm : c ≤ maxLen) (hl : l.length ≤ 1000000000) (hA : A = none → c = 0) (hB : tuneB l = true) (hp : f + n ≤ l.length) :
    Calls Try.prog 20 #[.slice A l.length c, .int .i64 f, .int .i64 n] w (RetNB 39 w.heap.size (subL l f n) true w) := by
  have HB := Lib.hid hB
  have h1 : (0 : Int) ≤ f ∧ (f : Int) ≤ l.length := by omega
  have h2 : (0 : Int) ≤ n ∧ (n : Int) ≤ (l.length : Int) - f := by omega
  have h3 : (f : Int) + n ≤ l.length := by omega
  have h4 : (f : Int) + n ≤ c := by omega
  have h5 : (0 : Int) ≤ (f : Int) + n := by omega
  have h6 : (f : Int) ≤ (f : Int) + n := by omega
  have h7 : ¬ (f : Int) < 0 := by omega
  have h8 : ¬ (n : Int) < 0 := by omega
  have h9 : ¬ (l.length : Int) < f := by omega
  have h10 : ¬ (l.length : Int) - f < n := by omega
  unfold maxLen at hcm
  clear hB
  go_enter Try.func20, Try.ntmps20
  go_wp2_with fail
  refine (impl_TuneOk _ _ _ _ hrd (by omega)).mono ?_
  rintro e w1 ⟨rfl, hb1⟩
  rw [HB.out]
  go_wp2_with fail
  · have hn0 : n = 0 := by omega
    have hcc := copyNotes_any A 0 (subL l f n) w1 (by rw [hn0]; exact subL_none) (by rw [subL_len hp]; omega) (fun _ => rfl)
    rw [subL_len hp] at hcc
    refine hcc.mono ?_
    rintro e w2 ⟨A2, c2, rfl, ho, _, _, _, _, hb2⟩
    have HO := Lib.hid ho
    have HB2 := Lib.hid (hb1.trans (hb2.mono hb1.size))
    have HS := Lib.hid hb1.size
    clear hn0
    go_wp2
    go_ret2
    exact RetNB.mk (HO.out.base_le HS.out) HB2.out
  · have hcc := copyNotes_any (Option.map (fun x => x.add (f * 2)) A) (c - f) (subL l f n) w1 (subL_map hp (hrd.below hb1 rfl)) (by rw [subL_len hp]; omega) (fun h => by cases A <;> simp at h; have := hA rfl; omega)
    rw [subL_len hp] at hcc
    refine hcc.mono ?_
    rintro e w2 ⟨A2, c2, rfl, ho, _, _, _, _, hb2⟩
    have HO := Lib.hid ho
    have HB2 := Lib.hid (hb1.trans (hb2.mono hb1.size))
    have HS := Lib.hid hb1.size
    go_wp2
    go_ret2
    exact RetNB.mk (HO.out.base_le HS.out) HB2.out
set_option maxHeartbeats 800000 in
theorem impl_PartOf_no (A : Option Addr) (c : Nat) (l : List (Int × Int)) (f n : Int) (w : World) (hrd : RdN w A l) (hl : l.length ≤ 1000000000) (hf : Rng f) (hn : Rng n) (h : ¬ (tuneB l = true ∧ parP l f n)) :
    Calls Try.prog 20 #[.slice A l.length c, .int .i64 f, .int .i64 n] w (RetNB 39 w.heap.size [] false w) := by
  cases hB : tuneB l
  · have HB := Lib.hid hB
    clear h hB
    go_enter Try.func20, Try.ntmps20
    go_wp2_with fail
    refine (impl_TuneOk _ _ _ _ hrd (by omega)).mono ?_
    rintro e w1 ⟨rfl, hb1⟩
    rw [HB.out]
    go_wp2
    go_ret2
    exact RetNB.mk (OwnN.nil0 w1 _ _) hb1
  · have HB := Lib.hid hB
    have h1 : ¬ parP l f n := fun h1 => h ⟨hB, h1⟩
    unfold parP at h1
    clear h hB
    by_cases a1 : f < 0
    · clear h1
      go_enter Try.func20, Try.ntmps20
      go_wp2_with fail
      refine (impl_TuneOk _ _ _ _ hrd (by omega)).mono ?_
      rintro e w1 ⟨rfl, hb1⟩
      rw [HB.out]
      go_wp2
      go_ret2
      exact RetNB.mk (OwnN.nil0 w1 _ _) hb1
    · by_cases a2 : n < 0
      · clear h1
        go_enter Try.func20, Try.ntmps20
        go_wp2_with fail
        refine (impl_TuneOk _ _ _ _ hrd (by omega)).mono ?_
        rintro e w1 ⟨rfl, hb1⟩
        rw [HB.out]
        go_wp2
        go_ret2
        exact RetNB.mk (OwnN.nil0 w1 _ _) hb1
      · by_cases a3 : (l.length : Int) < f
        · clear h1
          go_enter Try.func20, Try.ntmps20
          go_wp2_with fail
          refine (impl_TuneOk _ _ _ _ hrd (by omega)).mono ?_
          rintro e w1 ⟨rfl, hb1⟩
          rw [HB.out]
          go_wp2
          go_ret2
          exact RetNB.mk (OwnN.nil0 w1 _ _) hb1
        · have a4 : (l.length : Int) - f < n := by omega
          have a5 : 0 ≤ f := by omega
          clear h1
          go_enter Try.func20, Try.ntmps20
          go_wp2_with fail
          refine (impl_TuneOk _ _ _ _ hrd (by omega)).mono ?_
          rintro e w1 ⟨rfl, hb1⟩
          rw [HB.out]
          go_wp2
          go_ret2
          exact RetNB.mk (OwnN.nil0 w1 _ _) hb1
noncomputable instance parDec (l : List (Int × Int)) (f n : Int) : Decidable (tuneB l = true ∧ parP l f n) := Classical.propDecidable _
noncomputable def parB (l : List (Int × Int)) (f n : Int) : Bool := decide (tuneB l = true ∧ parP l f n)
noncomputable def parZ (l : List (Int × Int)) (f n : Int) : List (Int × Int) := if tuneB l = true ∧ parP l f n then subL l f.toNat n.toNat else []
theorem parZ_len (l : List (Int × Int)) (f n : Int) : (parZ l f n).length ≤ l.length := by
  unfold parZ subL; split <;> simp <;> omega
theorem impl_PartOf (A : Option Addr) (c : Nat) (l : List (Int × Int)) (f n : Int) (w : World) (hrd : RdN w A l) (hc : l.length ≤ c) (hcm : c ≤ maxLen) (hl : l.length ≤ 1000000000) (hA : A = none → c = 0) (hf : Rng f) (hn : Rng n) :
    Calls Try.prog 20 #[.slice A l.length c, .int .i64 f, .int .i64 n] w (RetNB 39 w.heap.size (parZ l f n) (parB l f n) w) := by
  unfold parZ parB
  by_cases h : tuneB l = true ∧ parP l f n
  · rw [if_pos h, decide_eq_true h]
    obtain ⟨hB, ⟨h1, h2⟩, h3, h4⟩ := h
    obtain ⟨F, rfl⟩ := Int.eq_ofNat_of_zero_le h1
    obtain ⟨M, rfl⟩ := Int.eq_ofNat_of_zero_le h3
    exact impl_PartOf_yes A c l F M w hrd hc hcm hl hA hB (by omega)
  · rw [if_neg h, decide_eq_false h]
    exact impl_PartOf_no A c l f n w hrd hl hf hn h
end Go.Proofs.Ytjfaodbjmanfnaa
