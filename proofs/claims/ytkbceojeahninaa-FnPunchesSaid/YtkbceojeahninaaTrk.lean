/- The order of the pins by their tracks: plain part, and the program's own. -/
import Derived.Test.YtkbceojeahninaaStbW
namespace Go.Proofs.Ytkbceojeahninaa
open Go.ChangeShapes Go.WideShapes Go.ChangeAt Go.RowKit
set_option linter.unusedVariables false
/-- The pins of track t among the first k, behind acc. -/
def trkI (P : List (Int × Int)) (t : Int) (acc : List Int) : Nat → List Int
  | 0 => acc
  | k + 1 => if tm P k = t then trkI P t acc k ++ [(k : Int)] else trkI P t acc k
def trkT (P : List (Int × Int)) : Nat → List Int
  | 0 => []
  | t + 1 => trkI P (t : Int) (trkT P t) P.length
noncomputable def trkL (s t : Int) (P : List (Int × Int)) : List Int := if cylB s t P = true then trkT P t.toNat else []
theorem trkL_yes {s t : Int} {P : List (Int × Int)} (h : cylB s t P = true) : trkL s t P = trkT P t.toNat := if_pos h
theorem trkL_no {s t : Int} {P : List (Int × Int)} (h : cylB s t P = false) : trkL s t P = [] := if_neg (by rw [h]; simp)
theorem trkI_mem {P : List (Int × Int)} {t : Int} {acc : List Int} {x : Int} : ∀ n, x ∈ trkI P t acc n ↔ x ∈ acc ∨ ∃ k : Nat, k < n ∧ x = (k : Int) ∧ tm P k = t
  | 0 => by simp [trkI]
  | n + 1 => by
    unfold trkI
    by_cases h : tm P n = t
    · rw [if_pos h, List.mem_append, trkI_mem n, List.mem_singleton]
      constructor
      · rintro ((h1 | ⟨k, a, b⟩) | h1)
        · exact Or.inl h1
        · exact Or.inr ⟨k, by omega, b⟩
        · exact Or.inr ⟨n, by omega, h1, h⟩
      · rintro (h1 | ⟨k, a, b, c⟩)
        · exact Or.inl (Or.inl h1)
        · by_cases e : k = n
          · subst e; exact Or.inr b
          · exact Or.inl (Or.inr ⟨k, by omega, b, c⟩)
    · rw [if_neg h, trkI_mem n]
      constructor
      · rintro (h1 | ⟨k, a, b⟩)
        · exact Or.inl h1
        · exact Or.inr ⟨k, by omega, b⟩
      · rintro (h1 | ⟨k, a, b, c⟩)
        · exact Or.inl h1
        · by_cases e : k = n
          · subst e; exact absurd c h
          · exact Or.inr ⟨k, by omega, b, c⟩
theorem trkT_mem {P : List (Int × Int)} {x : Int} : ∀ t, x ∈ trkT P t ↔ ∃ k : Nat, k < P.length ∧ x = (k : Int) ∧ 0 ≤ tm P k ∧ tm P k < (t : Int)
  | 0 => by
    constructor
    · intro h; simp [trkT] at h
    · rintro ⟨k, _, _, a, b⟩; omega
  | t + 1 => by
    unfold trkT
    rw [trkI_mem, trkT_mem t]
    constructor
    · rintro (⟨k, a, b, c, d⟩ | ⟨k, a, b, c⟩)
      · exact ⟨k, a, b, c, by omega⟩
      · exact ⟨k, a, b, by omega, by omega⟩
    · rintro ⟨k, a, b, c, d⟩
      by_cases e : tm P k = (t : Int)
      · exact Or.inr ⟨k, a, b, e⟩
      · exact Or.inl ⟨k, a, b, c, by omega⟩
def keyT (P : List (Int × Int)) (x : Int) : Int := tm P x.toNat
theorem trkI_asc {P : List (Int × Int)} {t : Int} {acc : List Int} (h : acc.Pairwise (ltK (keyT P))) (hl : ∀ x ∈ acc, keyT P x < t) : ∀ n, (trkI P t acc n).Pairwise (ltK (keyT P))
  | 0 => h
  | n + 1 => by
    unfold trkI
    split
    · rename_i hn
      rw [List.pairwise_append]
      refine ⟨trkI_asc h hl n, by simp, fun x hx y hy => ?_⟩
      rw [List.mem_singleton] at hy
      subst hy
      have hk : keyT P (n : Int) = t := by unfold keyT; rw [Int.toNat_natCast]; exact hn
      rcases (trkI_mem n).1 hx with h1 | ⟨k, a, b, c⟩
      · have := hl x h1
        unfold ltK; omega
      · subst b
        have hk2 : keyT P (k : Int) = t := by unfold keyT; rw [Int.toNat_natCast]; exact c
        unfold ltK; omega
    · exact trkI_asc h hl n
theorem trkT_asc (P : List (Int × Int)) : ∀ t, (trkT P t).Pairwise (ltK (keyT P))
  | 0 => List.Pairwise.nil
  | t + 1 => by
    unfold trkT
    refine trkI_asc (trkT_asc P t) (fun x hx => ?_) _
    obtain ⟨k, _, rfl, _, h⟩ := (trkT_mem t).1 hx
    unfold keyT; rw [Int.toNat_natCast]; exact h
theorem pw_uniq {R : Int → Int → Prop} (irr : ∀ x, ¬ R x x) (asy : ∀ x y, R x y → ¬ R y x) : ∀ (S T : List Int), S.Pairwise R → T.Pairwise R → (∀ x, x ∈ S ↔ x ∈ T) → S = T
  | [], [], _, _, _ => rfl
  | [], b :: T, _, _, h => absurd ((h b).2 (List.mem_cons_self ..)) (by simp)
  | a :: S, [], _, _, h => absurd ((h a).1 (List.mem_cons_self ..)) (by simp)
  | a :: S, b :: T, hS, hT, h => by
    rw [List.pairwise_cons] at hS hT
    have hab : a = b := by
      rcases List.mem_cons.1 ((h a).1 (List.mem_cons_self ..)) with h1 | h1
      · exact h1
      · rcases List.mem_cons.1 ((h b).2 (List.mem_cons_self ..)) with h2 | h2
        · exact h2.symm
        · exact absurd (hS.1 b h2) (asy _ _ (hT.1 a h1))
    subst hab
    congr 1
    refine pw_uniq irr asy S T hS.2 hT.2 fun x => ?_
    constructor
    · intro hx
      rcases List.mem_cons.1 ((h x).1 (List.mem_cons_of_mem _ hx)) with h1 | h1
      · subst h1; exact absurd (hS.1 x hx) (irr x)
      · exact h1
    · intro hx
      rcases List.mem_cons.1 ((h x).2 (List.mem_cons_of_mem _ hx)) with h1 | h1
      · subst h1; exact absurd (hT.1 x hx) (irr x)
      · exact h1
theorem gt_memT {l : List Int} {k : Nat} (h : k < l.length) : gt l k ∈ l := by
  unfold gt; rw [List.getD_eq_getElem?_getD, List.getElem?_eq_getElem h]; exact List.getElem_mem h
theorem gt_getT {l : List Int} {k : Nat} (h : k < l.length) : gt l k = l[k] := by
  unfold gt; rw [List.getD_eq_getElem?_getD, List.getElem?_eq_getElem h]; rfl
theorem rng_gt {n t : Nat} (h : t < n) : gt (rngI n) t = (t : Int) := by simp [gt, rngI, List.getD, h]
/-- What a stable sort of 0 .. n - 1 by the tracks is. -/
theorem trk_uniq {s t : Int} {P : List (Int × Int)} {M : List Int} (hB : cylB s t P = true) (hw : Sw 0 P.length (rngI P.length) M) (hs : SrtK (keyT P) M 0 P.length) : M = trkT P t.toNat := by
  have hl : M.length = P.length := hw.1.trans (rngI_len _)
  obtain ⟨h1, h2, h3, h4⟩ := (of_decide_eq_true hB : cylP s t P)
  refine pw_uniq (R := ltK (keyT P)) (fun x h => by unfold ltK at h; omega) (fun x y h1 h2 => by unfold ltK at h1 h2; omega) _ _ ?_ (trkT_asc P _) fun x => ?_
  · rw [List.pairwise_iff_getElem]
    intro i j hi hj hij
    rw [← gt_getT hi, ← gt_getT hj]
    exact hs i j (Nat.zero_le _) hij (by omega)
  · rw [trkT_mem]
    constructor
    · intro hx
      obtain ⟨i, hi, rfl⟩ := List.getElem_of_mem hx
      obtain ⟨u, _, u2, e⟩ := hw.2.2.1 i (Nat.zero_le _) (by omega)
      rw [rng_gt u2] at e
      have h5 := (h4 u u2).1
      exact ⟨u, u2, by rw [← gt_getT hi]; exact e, by omega, by omega⟩
    · rintro ⟨k, hk, rfl, _, _⟩
      obtain ⟨i, _, i2, e⟩ := hw.2.2.2 k (Nat.zero_le _) hk
      rw [rng_gt hk] at e
      rw [← e]
      exact gt_memT (by omega)
theorem trk_len {s t : Int} {P : List (Int × Int)} (hB : cylB s t P = true) {M : List Int} (hw : Sw 0 P.length (rngI P.length) M) (hs : SrtK (keyT P) M 0 P.length) : (trkL s t P).length = P.length := by
  rw [trkL_yes hB, ← trk_uniq hB hw hs]; exact hw.1.trans (rngI_len _)
theorem drewN_add (W : World) (n q : Nat) : (W.drewN n).drewN q = W.drewN (n + q) := by unfold World.drewN; simp [Nat.add_assoc]
theorem cmpOk_of {bx g c : Nat} {w1 w2 : World} {A : Option Addr} {P : List (Int × Int)} (hg : w1.heap.size ≤ g) (hb : Below w1.heap.size w1 w2) (hrd : RdN w1 A P) (hbx : bx < w1.heap.size) (hc : w1.cell? ⟨bx, 2, none⟩ = some (.slice A P.length c)) : CmpOk (keyT P) (P.length : Int) bx g w2 := by
  intro W n hW x y hx hy
  obtain ⟨i, rfl⟩ : ∃ i : Nat, x = (i : Int) := ⟨x.toNat, by omega⟩
  obtain ⟨k, rfl⟩ : ∃ k : Nat, y = (k : Int) := ⟨y.toNat, by omega⟩
  obtain ⟨pb, po, rfl, hpl, hcl⟩ := hrd (by omega)
  have e1 := hW.cell ((hb.cell (p := ⟨bx, 2, none⟩) hbx).trans hc) (by simp; omega)
  have e2 := hW.cell ((hb.cell (p := ⟨pb, po + i * 2, none⟩) hpl).trans (hcl i (by omega)).1) (by simp; omega)
  have e3 := hW.cell ((hb.cell (p := ⟨pb, po + k * 2, none⟩) hpl).trans (hcl k (by omega)).1) (by simp; omega)
  refine (clo_any bx pb po n c i k P (W.drewN n) e1 e2 e3 (by omega) (by omega)).mono ?_
  rintro e w' ⟨rfl, q, rfl⟩
  refine ⟨by unfold keyT; rw [Int.toNat_natCast, Int.toNat_natCast], n + q, drewN_add W n q⟩
attribute [local irreducible] tm pt gt cylB rngI trkT trkL keyT ltK in
set_option maxHeartbeats 3200000 in
theorem impl_Trk (s t : Int) (A : Option Addr) (c : Nat) (P : List (Int × Int)) (w : World) (hrd : RdN w A P) (hP : P.length ≤ 1000000000) :
    Calls Try.prog 39 #[.agg #[.int .i64 s, .int .i64 t, .slice A P.length c]] w (RetI 3 w.heap.size (trkL s t P) w) := by
  obtain ⟨W0, hW0⟩ : ∃ W, W = w.alloc (.cells #[.int .i64 s, .int .i64 t, .slice A P.length c] 56) := ⟨_, rfl⟩
  have hb0 : Below w.heap.size w W0 := by rw [hW0]; exact (Below.refl _ _).alloc (Nat.le_refl _) _
  have s0 : w.heap.size < W0.heap.size := by rw [hW0]; simp
  have c0 : W0.cell? ⟨w.heap.size, 0, none⟩ = some (.int .i64 s) := by rw [hW0]; simp [go_sem]
  have c1 : W0.cell? ⟨w.heap.size, 1, none⟩ = some (.int .i64 t) := by rw [hW0]; simp [go_sem]
  have c2 : W0.cell? ⟨w.heap.size, 2, none⟩ = some (.slice A P.length c) := by rw [hW0]; simp [go_sem]
  have hrd0 := hrd.below hb0 rfl
  have HW0 := Lib.hid hW0
  clear hW0 hrd
  cases hC : cylB s t P
  · have HF := Lib.hid (trkL_no hC)
    have HC := Lib.hid hC
    clear hC
    go_enter Try.func39, Try.ntmps39
    go_wp2_with fail
    rw [← HW0.out]
    refine (impl_CylOk s t A c P W0 hrd0 hP).mono ?_
    rintro e w1 ⟨rfl, hb1⟩
    rw [HC.out]
    have hbF := hb0.trans (hb1.mono (Nat.le_of_lt s0))
    go_wp2
    go_ret
    rw [HF.out]
    exact RetI.mk (OwnI.nil0 _ _ _) hbF
  · have hP100 : P.length ≤ 100 := cyl_len hC
    have HC := Lib.hid hC
    clear hC
    go_enter Try.func39, Try.ntmps39
    go_wp2_with fail
    rw [← HW0.out]
    refine (impl_CylOk s t A c P W0 hrd0 hP).mono ?_
    rintro e w1 ⟨rfl, hb1⟩
    rw [HC.out]
    have d2 := (hb1.cell (p := ⟨w.heap.size, 2, none⟩) s0).trans c2
    have hrd1 := hrd0.below hb1 rfl
    have s1 : w.heap.size < w1.heap.size := Nat.lt_of_lt_of_le s0 hb1.size
    have hbw := hb0.trans (hb1.mono (Nat.le_of_lt s0))
    clear c0 c1 c2 hb0 hb1 hrd0
    go_wp2_with fail
    refine (upToR_any P.length w1 (by omega)).mono ?_
    rintro e w2 ⟨g, co, rfl, ho, hb2⟩
    have hgB := (ho.blk g rfl).1
    have hcmp := cmpOk_of hgB hb2 hrd1 s1 d2
    have hbw2 := hbw.trans (hb2.mono (Nat.le_of_lt s1))
    go_wp2_with fail
    refine (stable_any (keyT P) _ _ g P.length co w.heap.size (rngI P.length) w2 ho (rngI_len _) hP100 (fun t ht => rng_gt ht) hcmp).mono ?_
    rintro e w3 ⟨M, rfl, h1, h2, h3, h4⟩
    have HM := Lib.hid (show M = trkL s t P by rw [trkL_yes HC.out]; exact trk_uniq HC.out h1 h2)
    have hb3 := hbw2.trans (grown_Below h4 hbw2.size (fun k hk => by injection hk with hk; omega))
    rw [HM.out] at h3
    have HO := Lib.hid (h3.base_le (B' := w.heap.size) (Nat.le_of_lt s1))
    clear h1 h2 h3 h4 ho hcmp
    go_wp2
    go_ret
    exact RetI.mk HO.out hb3
end Go.Proofs.Ytkbceojeahninaa
