/- The pitches that need a damper: the program's own. -/
import Derived.Test.YtkbceojeahninaaSnds
import Derived.Test.YtkbceojeahninaaApp
import Derived.Deep.Cut
namespace Go.Proofs.Ytkbceojeahninaa
open Go.ChangeShapes Go.WideShapes Go.ChangeAt Go.RowKit
set_option linter.unusedVariables false
def lateQ (l : List (Int × Int)) (L : Int) (i j : Nat) : Prop := pt l j = pt l i ∧ tm l i - tm l j < L
instance (l : List (Int × Int)) (L : Int) (i j : Nat) : Decidable (lateQ l L i j) := inferInstanceAs (Decidable (_ ∧ _))
def latI (l : List (Int × Int)) (L : Int) (i : Nat) : Nat → List (Int × Int)
  | 0 => []
  | j + 1 => if lateQ l L i j then latI l L i j ++ [(tm l i, pt l i)] else latI l L i j
def latZ (l : List (Int × Int)) (L : Int) : Nat → List (Int × Int)
  | 0 => []
  | i + 1 => latZ l L i ++ latI l L i i
theorem latI_len (l : List (Int × Int)) (L : Int) (i : Nat) : ∀ j, (latI l L i j).length ≤ j
  | 0 => Nat.le_refl _
  | j + 1 => by have := latI_len l L i j; unfold latI; split <;> simp <;> omega
theorem latZ_len (l : List (Int × Int)) (L : Int) : ∀ i, i ≤ 41 → (latZ l L i).length ≤ 40 * i
  | 0, _ => Nat.le_refl _
  | i + 1, h => by have := latZ_len l L i (by omega); have := latI_len l L i i; unfold latZ; simp; omega
theorem lat_yes {l : List (Int × Int)} {L : Int} {i j : Nat} (h : lateQ l L i j) : latI l L i (j + 1) = latI l L i j ++ [(tm l i, pt l i)] := if_pos h
theorem lat_no {l : List (Int × Int)} {L : Int} {i j : Nat} (h : ¬ lateQ l L i j) : latI l L i (j + 1) = latI l L i j := if_neg h
theorem latI_mem {l : List (Int × Int)} {L : Int} {i : Nat} {x : Int × Int} : ∀ n, x ∈ latI l L i n ↔ ∃ j, j < n ∧ lateQ l L i j ∧ x = (tm l i, pt l i)
  | 0 => by simp [latI]
  | n + 1 => by
    unfold latI
    by_cases h : lateQ l L i n
    · rw [if_pos h, List.mem_append, latI_mem n, List.mem_singleton]
      constructor
      · rintro (⟨j, hj, h1⟩ | h1)
        · exact ⟨j, by omega, h1⟩
        · exact ⟨n, by omega, h, h1⟩
      · rintro ⟨j, hj, h1, h2⟩
        exact Or.inr h2
    · rw [if_neg h, latI_mem n]
      constructor
      · rintro ⟨j, hj, h1⟩
        exact ⟨j, by omega, h1⟩
      · rintro ⟨j, hj, h1, h2⟩
        by_cases e : j = n
        · subst e; exact absurd h1 h
        · exact ⟨j, by omega, h1, h2⟩
theorem latZ_mem {l : List (Int × Int)} {L : Int} {x : Int × Int} : ∀ n, x ∈ latZ l L n ↔ ∃ i, i < n ∧ ∃ j, j < i ∧ lateQ l L i j ∧ x = (tm l i, pt l i)
  | 0 => by simp [latZ]
  | n + 1 => by
    unfold latZ
    rw [List.mem_append, latZ_mem n, latI_mem]
    constructor
    · rintro (⟨i, hi, h⟩ | h)
      · exact ⟨i, by omega, h⟩
      · exact ⟨n, by omega, h⟩
    · rintro ⟨i, hi, h⟩
      by_cases e : i = n
      · subst e; exact Or.inr h
      · exact Or.inl ⟨i, by omega, h⟩
def damQ (l : List (Int × Int)) (L p : Int) (k i : Nat) : Prop := pt l k = p ∧ pt l i = p ∧ tm l k < tm l i + L
instance (l : List (Int × Int)) (L p : Int) (k i : Nat) : Decidable (damQ l L p k i) := inferInstanceAs (Decidable (_ ∧ _ ∧ _))
def damI (l : List (Int × Int)) (L p : Int) (k : Nat) (f : Bool) : Nat → Bool
  | 0 => f
  | i + 1 => damI l L p k f i || decide (damQ l L p k i)
def damF (l : List (Int × Int)) (L p : Int) : Nat → Bool
  | 0 => false
  | k + 1 => damI l L p k (damF l L p k) k
theorem damI_iff {l : List (Int × Int)} {L p : Int} {k : Nat} {f : Bool} : ∀ n, damI l L p k f n = true ↔ f = true ∨ ∃ i, i < n ∧ damQ l L p k i
  | 0 => by simp [damI]
  | n + 1 => by
    unfold damI
    rw [Bool.or_eq_true, damI_iff n, decide_eq_true_eq]
    constructor
    · rintro ((h | ⟨i, hi, h⟩) | h)
      · exact Or.inl h
      · exact Or.inr ⟨i, by omega, h⟩
      · exact Or.inr ⟨n, by omega, h⟩
    · rintro (h | ⟨i, hi, h⟩)
      · exact Or.inl (Or.inl h)
      · by_cases e : i = n
        · subst e; exact Or.inr h
        · exact Or.inl (Or.inr ⟨i, by omega, h⟩)
theorem damF_iff {l : List (Int × Int)} {L p : Int} : ∀ n, damF l L p n = true ↔ ∃ k, k < n ∧ ∃ i, i < k ∧ damQ l L p k i
  | 0 => by simp [damF]
  | n + 1 => by
    unfold damF
    rw [damI_iff, damF_iff n]
    constructor
    · rintro (⟨k, hk, h⟩ | h)
      · exact ⟨k, by omega, h⟩
      · exact ⟨n, by omega, h⟩
    · rintro ⟨k, hk, h⟩
      by_cases e : k = n
      · subst e; exact Or.inr h
      · exact Or.inl ⟨k, by omega, h⟩
theorem dam_eq (l : List (Int × Int)) (L : Int) : pitZ (latZ l L l.length) 61 = selZ (fun p => damF l L (p : Int) l.length) 61 := by
  rw [pitZ_sel]
  apply sel_congr
  intro p _
  rw [Bool.eq_iff_iff, hasP_mem, damF_iff]
  constructor
  · rintro ⟨x, hx, h⟩
    obtain ⟨i, hi, j, hj, hq, rfl⟩ := (latZ_mem _).1 hx
    exact ⟨i, hi, j, hj, h, hq.1.trans h, by have := hq.2; omega⟩
  · rintro ⟨k, hk, i, hi, h1, h2, h3⟩
    exact ⟨_, (latZ_mem _).2 ⟨k, hk, i, hi, ⟨h2.trans h1.symm, by omega⟩, rfl⟩, h1⟩
def damOk (l : List (Int × Int)) (L : Int) : Prop := tuneB l = true ∧ 1 ≤ L ∧ L ≤ 100
noncomputable instance (l : List (Int × Int)) (L : Int) : Decidable (damOk l L) := Classical.propDecidable _
noncomputable def damB (l : List (Int × Int)) (L : Int) : List Int := if damOk l L then selZ (fun p => damF l L (p : Int) l.length) 61 else []
theorem damB_yes {l : List (Int × Int)} {L : Int} (h : damOk l L) : damB l L = selZ (fun p => damF l L (p : Int) l.length) 61 := if_pos h
theorem damB_no {l : List (Int × Int)} {L : Int} (h : ¬ damOk l L) : damB l L = [] := if_neg h
theorem damB_len (l : List (Int × Int)) (L : Int) : (damB l L).length ≤ 61 := by
  unfold damB; split
  · exact selZ_len _ _
  · simp
attribute [local irreducible] tm pt latI latZ lateQ pitZ tuneB selZ damF in
set_option maxHeartbeats 1600000 in
theorem impl_Damp_ok (A : Option Addr) (c : Nat) (l : List (Int × Int)) (L : Int) (w : World) (hrd : RdN w A l) (hc : l.length ≤ c) (hcm : c ≤ maxLen) (hok : damOk l L) :
    Calls Try.prog 22 #[.slice A l.length c, .int .i64 L] w (RetI 3 w.heap.size (selZ (fun p => damF l L (p : Int) l.length) 61) w) := by
  have HE := Lib.hid (dam_eq l L)
  have HB := Lib.hid hok.1
  have HT := Lib.hid (fun k (hk : k < l.length) => tm_rng hok.1 hk)
  have hl40 := tune_len2 hok.1
  have hL := hok.2
  unfold maxLen at hcm
  clear hok
  go_enter Try.func22, Try.ntmps22
  go_wp2_with fail
  refine (impl_TuneOk _ _ _ _ hrd (by omega)).mono ?_
  rintro e w1 ⟨rfl, hb1⟩
  rw [HB.out]
  have hr1 := hrd.below hb1 rfl
  clear hrd
  go_wp2_with fail
  refine (wi_yes _ _ _ _ hL).mono ?_
  rintro e wz ⟨rfl, rfl⟩
  obtain ⟨hL1, hL2⟩ := hL
  go_wp2
  go_loopw [5, 21] (fun v i wr => ∃ k : Nat, k ≤ l.length ∧ i = .int .i64 k ∧ OwnN 37 w1.heap.size wr v (latZ l L k) ∧ Below w1.heap.size w1 wr) (fun _ i _ => l.length - (intOf i).toNat)
  case atStart => exact ⟨0, by omega, rfl, by rw [show latZ l L 0 = [] by unfold latZ; rfl]; exact OwnN.lit0 _ _, (Below.refl _ _).alloc (Nat.le_refl _) _⟩
  case round =>
    obtain ⟨i, hi, rfl, hown, hb⟩ := hrel
    obtain ⟨wo, hwo⟩ : ∃ wo, wo = wr := ⟨wr, rfl⟩
    subst hwo
    by_cases hli : i < l.length
    · have hzl := latZ_len l L i (by omega)
      have HZ := Lib.hid (show latZ l L (i + 1) = latZ l L i ++ latI l L i i by rw [latZ])
      have HI0 := Lib.hid (show latZ l L i ++ latI l L i 0 = latZ l L i by rw [latI, List.append_nil])
      obtain ⟨b, o, rfl, lb, hcl⟩ := hr1 (by omega)
      have k1 := (hb.cell (p := ⟨b, o + i * 2, none⟩) lb).trans (hcl i hli).1
      have k2 := (hb.cell (p := ⟨b, o + i * 2 + 1, none⟩) lb).trans (hcl i hli).2
      have HCL := Lib.hid hcl
      obtain ⟨V, hV⟩ : ∃ V, V = wo.alloc (Obj.cells #[.int .i64 (tm l i), .int .i64 (pt l i)] 37) := ⟨_, rfl⟩
      have hBV : Below wo.heap.size wo V := by rw [hV]; exact (Below.refl _ _).alloc (Nat.le_refl _) _
      have n1 : V.cell? ⟨wo.heap.size, 0, none⟩ = some (.int .i64 (tm l i)) := by rw [hV]; simp [go_sem]
      have n2 : V.cell? ⟨wo.heap.size, 1, none⟩ = some (.int .i64 (pt l i)) := by rw [hV]; simp [go_sem]
      have nV : wo.heap.size < V.heap.size := by rw [hV]; simp
      have hbV := hb.trans (hBV.mono hb.size)
      have hoV := hown.below hBV rfl
      have HN1 := Lib.hid n1
      have HN2 := Lib.hid n2
      have hneV : ∀ v0, OwnN 37 w1.heap.size wo v0 (latZ l L i) → v0.ownBlock ≠ some wo.heap.size := fun v0 h0 h => by have := h0.blk _ h; omega
      have hne := hneV _ hown
      have HV := Lib.hid hV
      have h0i : (i : Int) ≤ (c : Int) := by omega
      have h0j : (0 : Int) ≤ (i : Int) := by omega
      have h0k : (i : Int) ≤ (l.length : Int) := by omega
      clear hV hBV hcl hown n1 n2 hneV
      go_wp2_with fail
      rw [← HV.out]
      go_loopw [5, 30] (fun v q wt => ∃ j : Nat, j ≤ i ∧ q = .int .i64 j ∧ OwnN 37 w1.heap.size wt v (latZ l L i ++ latI l L i j) ∧ Below w1.heap.size w1 wt ∧ v.ownBlock ≠ some wo.heap.size ∧ wo.heap.size < wt.heap.size ∧ wt.cell? ⟨wo.heap.size, 0, none⟩ = some (.int .i64 (tm l i)) ∧ wt.cell? ⟨wo.heap.size, 1, none⟩ = some (.int .i64 (pt l i))) (fun _ q _ => i - (intOf q).toNat)
      case atStart => exact ⟨0, by omega, rfl, by rw [HI0.out]; exact hoV, hbV, hne, nV, HN1.out, HN2.out⟩
      case round =>
        clear hoV hbV hne nV
        obtain ⟨j, hj, rfl, hown, hbt, hne, nS, m1, m2⟩ := hrel
        have M1 := Lib.hid m1
        have M2 := Lib.hid m2
        by_cases hlj : j < i
        · have hjl := latI_len l L i j
          have hln : (latZ l L i ++ latI l L i j).length ≤ 1000000000 := by simp; omega
          have p1 := (hbt.cell (p := ⟨b, o + j * 2, none⟩) lb).trans (HCL.out j (by omega)).1
          have p2 := (hbt.cell (p := ⟨b, o + j * 2 + 1, none⟩) lb).trans (HCL.out j (by omega)).2
          have g1 := HT.out i hli
          have g2 := HT.out j (by omega)
          have h0a : (0 : Int) ≤ (j : Int) := by omega
          have h0b : (j : Int) < (i : Int) := by omega
          obtain ⟨U, hU⟩ : ∃ U, U = wr.alloc (Obj.cells #[.int .i64 (tm l j), .int .i64 (pt l j)] 37) := ⟨_, rfl⟩
          have hBU : Below wr.heap.size wr U := by rw [hU]; exact (Below.refl _ _).alloc (Nat.le_refl _) _
          have r1 : U.cell? ⟨wr.heap.size, 0, none⟩ = some (.int .i64 (tm l j)) := by rw [hU]; simp [go_sem]
          have r2 : U.cell? ⟨wr.heap.size, 1, none⟩ = some (.int .i64 (pt l j)) := by rw [hU]; simp [go_sem]
          have m1a := (hBU.cell (p := ⟨wo.heap.size, 0, none⟩) nS).trans m1
          have m2a := (hBU.cell (p := ⟨wo.heap.size, 1, none⟩) nS).trans m2
          have hb2 := hbt.trans (hBU.mono hbt.size)
          have ho2 := hown.below hBU rfl
          have nS2 := Nat.lt_of_lt_of_le nS hBU.size
          have hbs2 := hb2.size
          have HU := Lib.hid hU
          clear m1 m2 hU hBU
          by_cases h1 : pt l j = pt l i
          · have q1 : (pt l j == pt l i) = true := by simpa using h1
            by_cases h2 : tm l i - tm l j < L
            · have HX := Lib.hid (lat_yes (l := l) (L := L) (show lateQ l L i j by unfold lateQ; exact ⟨h1, h2⟩))
              clear h1
              go_upto_region 10 with fail
              rw [← HU.out]
              go_wp2_with (at_builtin; (refine app_pair_b rfl _ _ 32 rfl 37 Try.underlying32 (by kernel_rfl) w1.heap.size _ (latZ l L i ++ latI l L i j) (tm l i) (pt l i) ho2 rfl rfl hln hbs2 ?_; intro v' w3 hown3 hb3 hgr3 hvb3))
              have HC1 := Lib.hid ((hgr3.cell_far ⟨wo.heap.size, 0, none⟩ nS2 (Ne.symm hne)).trans m1a)
              have HC2 := Lib.hid ((hgr3.cell_far ⟨wo.heap.size, 1, none⟩ nS2 (Ne.symm hne)).trans m2a)
              have hs3 := Nat.lt_of_lt_of_le nS2 hgr3.size
              have hne3 : v'.ownBlock ≠ some wo.heap.size := by
                rcases hvb3 with h | ⟨q, h, hq⟩
                · rw [h]; exact hne
                · rw [h]; intro hh; injection hh with hh; omega
              go_roundw
              case rel => exact ⟨j + 1, by omega, by go_num, by rw [HX.out, ← List.append_assoc]; exact hown3, hb2.trans hb3, hne3, hs3, HC1.out, HC2.out⟩
              case measure => simp [intOf]; omega
            · have HX := Lib.hid (lat_no (l := l) (L := L) (i := i) (j := j) (fun h : lateQ l L i j => h2 (by unfold lateQ at h; exact h.2)))
              clear h1
              go_upto_region 10 with fail
              rw [← HU.out]
              go_wp2
              go_roundw
              case rel => exact ⟨j + 1, by omega, by go_num, by rw [HX.out]; exact ho2, hb2, hne, nS2, m1a, m2a⟩
              case measure => simp [intOf]; omega
          · have HX := Lib.hid (lat_no (l := l) (L := L) (i := i) (j := j) (fun h : lateQ l L i j => h1 (by unfold lateQ at h; exact h.1)))
            have q1 : (pt l j == pt l i) = false := by simpa using h1
            clear h1
            go_upto_region 10 with fail
            rw [← HU.out]
            go_wp2
            go_roundw
            case rel => exact ⟨j + 1, by omega, by go_num, by rw [HX.out]; exact ho2, hb2, hne, nS2, m1a, m2a⟩
            case measure => simp [intOf]; omega
        · obtain rfl : j = i := by omega
          go_wp2
          go_roundw
          case rel => exact ⟨j + 1, by omega, by go_num, by rw [HZ.out]; exact hown, hbt⟩
          case measure => simp [intOf]; omega
    · obtain rfl : i = l.length := by omega
      have hzl := latZ_len l L l.length (by omega)
      obtain ⟨Ax, cx, rfl, _, _, hrr⟩ := hown.rd
      go_wp2_with fail
      refine (pitchesOf_one wo.heap.size Ax cx (latZ l L l.length) _ (by simp [go_sem]) (by simp) (rdn_alloc2 hrr _) (by omega)).mono ?_
      rintro e w3 ⟨A3, c3, rfl, ho3, _, _, _, _, hb4⟩
      have hb01 := hb1.trans (hb.mono hb1.size)
      have hb5 : Below w.heap.size w w3 := (hb01.alloc hb01.size _).trans (hb4.mono (by simp; exact Nat.le_succ_of_le hb01.size))
      have HO := Lib.hid (ho3.base_le (B' := w.heap.size) (by simp; exact Nat.le_succ_of_le hb01.size))
      have hB5 := Lib.hid hb5
      clear ho3 hb4 hb5 hb01
      go_wp2
      go_ret
      rw [← HE.out]
      exact RetI.mk HO.out hB5.out
end Go.Proofs.Ytkbceojeahninaa
