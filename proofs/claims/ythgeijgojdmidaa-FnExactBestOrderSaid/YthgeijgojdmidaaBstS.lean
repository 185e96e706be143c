/- The best order: the reference's search, and the reference. -/
import Derived.Test.YthgeijgojdmidaaBst
import Derived.Test.YthgeijgojdmidaaStI
namespace Go.Proofs.Ythgeijgojdmidaa
open Go.ChangeShapes Go.WideShapes Go.ChangeAt Go.RowKit
set_option linter.unusedVariables false
def RetIK (e B : Nat) (L : List Int) (z : Int) (w : World) (en : Ending) (w' : World) : Prop :=
  ∃ A c, en = .returned (.tuple #[.slice A L.length c, .int .i64 z]) ∧ OwnI e B w' (.slice A L.length c) L ∧ L.length ≤ c ∧ c ≤ maxLen ∧ (A = none → c = 0) ∧ RdI w' A L ∧ Below B w w'
theorem RetIK.mk {e B : Nat} {L : List Int} {z : Int} {w w' : World} {v : Value} (h : OwnI e B w' v L) (hb : Below B w w') : RetIK e B L z w (.returned (.tuple #[v, .int .i64 z])) w' := by
  obtain ⟨A, c, he, r⟩ := RetI.mk h hb
  injection he with he
  subst he
  exact ⟨A, c, rfl, r⟩
def hasTo (h : List Int) (k : Int) (j : Nat) : Bool := hasL (h.take j) k
theorem hasTo_zero (h : List Int) (k : Int) : hasTo h k 0 = false := by unfold hasTo hasL; simp
theorem hasTo_all (h : List Int) (k : Int) : hasTo h k h.length = hasL h k := by unfold hasTo; rw [List.take_length]
theorem hasTo_succ {h : List Int} {k : Int} {j : Nat} (hj : j < h.length) : hasTo h k (j + 1) = (hasTo h k j || decide (gt h j = k)) := by
  unfold hasTo
  rw [List.take_succ_eq_append_getElem hj, has_snoc, gt_get hj]
  congr 1
  rw [decide_eq_decide]
  exact ⟨Eq.symm, Eq.symm⟩
theorem fst2_yes {st q : List Int × Int} (h : st.2 < 0 ∨ q.2 < st.2) : fst2 st q = q := if_pos h
theorem fst2_no {st q : List Int × Int} (h : ¬ (st.2 < 0 ∨ q.2 < st.2)) : fst2 st q = st := if_neg h
theorem cos_bd (s : Int) (P : List (Int × Int)) (l : List Int) (hl : l.length ≤ 100) : -100 ≤ cosF s P l ∧ cosF s P l ≤ 110000 := by
  have := way_bd s P l l.length
  unfold cosF; omega
attribute [local irreducible] tm pt gt cosF hasL hasTo sr srTo mvZ moveZ fst2 in
set_option maxRecDepth 100000 in
set_option maxHeartbeats 3200000 in
theorem search_any (s t : Int) (P : List (Int × Int)) (h7 : P.length ≤ 7) : ∀ (m : Nat) (A : Option Addr) (c : Nat) (h : List Int) (gh ch hn : Nat) (cost : Int) (w : World) (hhn : h.length = hn) (hco : cost = cosF s P h) (hrd : RdN w A P) (hrh : RdI w (some ⟨gh, 0, none⟩) h) (hlm : h.length + m = P.length) (hr : ∀ i, i < h.length → 0 ≤ gt h i ∧ gt h i < (P.length : Int)),
    Calls Try.prog 96 #[.agg #[.int .i64 s, .int .i64 t, .slice A P.length c], .slice (some ⟨gh, 0, none⟩) hn ch, .int .i64 cost] w (RetIK 3 w.heap.size (sr s P m h).1 (sr s P m h).2 w) := by
  intro m
  induction m with
  | zero =>
    intro A c h gh ch hn cost w hhn hco hrd hrh hlm hr
    subst hhn hco
    obtain ⟨W0, hW0⟩ : ∃ W, W = w.alloc (.cells #[.int .i64 s, .int .i64 t, .slice A P.length c] 30) := ⟨_, rfl⟩
    have hb0 : Below w.heap.size w W0 := by rw [hW0]; exact (Below.refl _ _).alloc (Nat.le_refl _) _
    have s0 : w.heap.size < W0.heap.size := by rw [hW0]; simp
    have a2 : W0.cell? ⟨w.heap.size, 2, none⟩ = some (.slice A P.length c) := by rw [hW0]; simp [go_sem]
    have hrh0 := hrh.below hb0 rfl
    obtain ⟨W1, hW1⟩ : ∃ W, W = W0.alloc (.cells #[] 3) := ⟨_, rfl⟩
    have hb1 : Below W0.heap.size W0 W1 := by rw [hW1]; exact (Below.refl _ _).alloc (Nat.le_refl _) _
    have ho1 : OwnI 3 W0.heap.size W1 (.slice (some ⟨W0.heap.size, 0, none⟩) 0 0) [] := by rw [hW1]; exact OwnI.lit0 _ _
    have hrh1 := hrh0.below hb1 rfl
    have hs1 := hb1.size
    have HS0 := Lib.hid (show W0.heap.size = w.heap.size + 1 by rw [hW0]; simp)
    have HW1 := Lib.hid (show W1 = (w.alloc (.cells #[.int .i64 s, .int .i64 t, .slice A P.length c] 30)).alloc (.cells #[] 3) by rw [hW1, hW0])
    have HF := Lib.hid (sr_zero s P h)
    have hq : ((h.length : Int) == (P.length : Int)) = true := beq_iff_eq.2 (by omega)
    have hq3 : decide ((h.length : Int) = (P.length : Int)) = true := decide_eq_true (by omega)
    have hq4 : decide (h.length = P.length) = true := decide_eq_true (by omega)
    have hl7 : h.length ≤ 7 := by omega
    have HB0 := Lib.hid (hb0.trans (hb1.mono (Nat.le_of_lt s0)))
    rw [HS0.out] at ho1
    clear hW0 hW1 hlm hrd hrh hr
    go_enter Try.func96, Try.ntmps96
    go_upto_region 2 with (fail)
    go_wp2_with (at_builtin; rw [← HW1.out]; refine app_ints rfl _ _ 25 rfl 3 Try.underlying25 (by kernel_rfl) w.heap.size _ [] h (some ⟨gh, 0, none⟩) ch (ho1.base_le (by omega)) hrh1 rfl rfl (by simp; omega) HB0.out.size (by simp) ?_; intro v' w2 hown2 hb2)
    have hbF := HB0.out.trans hb2
    rw [List.nil_append] at hown2
    go_ret2
    rw [HF.out]
    exact RetIK.mk hown2 hbF
  | succ m ih =>
    intro A c h gh ch hn cost w hhn hco hrd hrh hlm hr
    subst hhn hco
    have IH := Lib.hid ih
    clear ih
    obtain ⟨W0, hW0⟩ : ∃ W, W = w.alloc (.cells #[.int .i64 s, .int .i64 t, .slice A P.length c] 30) := ⟨_, rfl⟩
    have hb0 : Below w.heap.size w W0 := by rw [hW0]; exact (Below.refl _ _).alloc (Nat.le_refl _) _
    have s0 : w.heap.size < W0.heap.size := by rw [hW0]; simp
    have a0 : W0.cell? ⟨w.heap.size, 0, none⟩ = some (.int .i64 s) := by rw [hW0]; simp [go_sem]
    have a1 : W0.cell? ⟨w.heap.size, 1, none⟩ = some (.int .i64 t) := by rw [hW0]; simp [go_sem]
    have a2 : W0.cell? ⟨w.heap.size, 2, none⟩ = some (.slice A P.length c) := by rw [hW0]; simp [go_sem]
    have hrd0 := hrd.below hb0 rfl
    have hrh0 := hrh.below hb0 rfl
    obtain ⟨W1, hW1⟩ : ∃ W, W = W0.alloc (.cells #[] 3) := ⟨_, rfl⟩
    have hb1 : Below W0.heap.size W0 W1 := by rw [hW1]; exact (Below.refl _ _).alloc (Nat.le_refl _) _
    have ho1 : OwnI 3 W0.heap.size W1 (.slice (some ⟨W0.heap.size, 0, none⟩) 0 0) [] := by rw [hW1]; exact OwnI.lit0 _ _
    have HS0 := Lib.hid (show W0.heap.size = w.heap.size + 1 by rw [hW0]; simp)
    have HW1 := Lib.hid (show W1 = (w.alloc (.cells #[.int .i64 s, .int .i64 t, .slice A P.length c] 30)).alloc (.cells #[] 3) by rw [hW1, hW0])
    have HF := Lib.hid (sr_succ s P m h)
    have HZ := Lib.hid (srTo_zero s P m h)
    have HHas := Lib.hid (fun (k : Nat) hh => srTo_has (s := s) (P := P) (m := m) (h := h) (k := k) hh)
    have HNew := Lib.hid (fun (k : Nat) hh => srTo_new (s := s) (P := P) (m := m) (h := h) (k := k) hh)
    have HR := Lib.hid hr
    have HLM := Lib.hid hlm
    have HCB := Lib.hid (fun (l : List Int) hl => cos_bd s P l hl)
    have HMB := Lib.hid (mvZ_bd s P)
    have hq : ((h.length : Int) == (P.length : Int)) = false := beq_eq_false_iff_ne.2 (by omega)
    have hq3 : decide ((h.length : Int) = (P.length : Int)) = false := decide_eq_false (by omega)
    have hq4 : decide (h.length = P.length) = false := decide_eq_false (by omega)
    have hl7 : h.length ≤ 7 := by omega
    have hlP : h.length < P.length := by omega
    clear hW0 hW1 hlm hrd hrh hr
    go_enter Try.func96, Try.ntmps96
    go_wp2
    go_loopw [8, 9, 10] (fun b z i wr => ∃ (k : Nat) (Ab : Option Addr) (cb : Nat), k ≤ P.length ∧ b = .slice Ab (srTo s P m h k).1.length cb ∧ z = .int .i64 (srTo s P m h k).2 ∧ i = .int .i64 k ∧ OwnI 3 W0.heap.size wr (.slice Ab (srTo s P m h k).1.length cb) (srTo s P m h k).1 ∧ Below W0.heap.size W0 wr) (fun _ _ i _ => P.length - (intOf i).toNat)
    case atStart => exact ⟨0, some ⟨W0.heap.size, 0, none⟩, 0, by omega, by rw [HZ.out, HS0.out]; rfl, by rw [HZ.out], rfl, by rw [HZ.out, ← HW1.out]; exact ho1, by rw [← HW1.out]; exact hb1⟩
    case round =>
      clear ho1 hb1
      obtain ⟨k, Ab, cb, hk, rfl, rfl, rfl, hob, hb⟩ := hrel
      have hbs := hb.size
      have e2 := (hb.cell (p := ⟨w.heap.size, 2, none⟩) s0).trans a2
      have HHk := Lib.hid (HHas.out k)
      have HNk := Lib.hid (HNew.out k)
      obtain ⟨st, hst⟩ : ∃ st, st = srTo s P m h k := ⟨_, rfl⟩
      rw [← hst] at HHk HNk hob ⊢
      have HST := Lib.hid hst
      clear hst
      by_cases hkl : k < P.length
      · obtain ⟨wo, hwo⟩ : ∃ wo, wo = wr := ⟨wr, rfl⟩
        subst hwo
        have HT0 := Lib.hid (hasTo_zero h (k : Int))
        have HTA := Lib.hid (hasTo_all h (k : Int))
        have HTS := Lib.hid (fun (j : Nat) hj => hasTo_succ (h := h) (k := (k : Int)) (j := j) hj)
        go_wp2
        go_loopw [11, 12] (fun f i wt => ∃ j : Nat, j ≤ h.length ∧ f = .bool (hasTo h (k : Int) j) ∧ i = .int .i64 j ∧ wt = wo) (fun _ i _ => h.length - (intOf i).toNat)
        case atStart => exact ⟨0, by omega, by rw [HT0.out], rfl, rfl⟩
        case round =>
          obtain ⟨j, hj, rfl, rfl, rfl⟩ := hrel
          by_cases hjl : j < h.length
          · have hs' := HTS.out j hjl
            obtain ⟨b2, o2, he, lb2, hc2⟩ := hrh0 (by omega)
            injection he with he
            injection he with he1 he2
            subst he1 he2
            have d1 := (hb.cell (p := ⟨gh, 0 + j, none⟩) lb2).trans (hc2 j hjl)
            rw [Nat.zero_add] at d1
            have HSJ := Lib.hid hs'
            clear hs' hc2
            cases hf : hasTo h (k : Int) j
            · by_cases he : gt h j = (k : Int)
              · have HE := Lib.hid (show hasTo h (k : Int) (j + 1) = true by rw [HSJ.out, hf, decide_eq_true he]; rfl)
                have hq5 : (gt h j == (k : Int)) = true := beq_iff_eq.2 he
                clear he hf
                go_wp2
                go_roundw
                case rel => exact ⟨j + 1, by omega, by rw [HE.out], by go_num, by trivial⟩
                case measure => simp [intOf]; omega
              · have HE := Lib.hid (show hasTo h (k : Int) (j + 1) = false by rw [HSJ.out, hf, decide_eq_false he]; rfl)
                have hq5 : (gt h j == (k : Int)) = false := beq_eq_false_iff_ne.2 he
                clear he hf
                go_wp2
                go_roundw
                case rel => exact ⟨j + 1, by omega, by rw [HE.out], by go_num, by trivial⟩
                case measure => simp [intOf]; omega
            · have HE := Lib.hid (show hasTo h (k : Int) (j + 1) = true by rw [HSJ.out, hf]; rfl)
              clear hf
              go_wp2
              go_roundw
              case rel => exact ⟨j + 1, by omega, by rw [HE.out], by go_num, by trivial⟩
              case measure => simp [intOf]; omega
          · obtain rfl : j = h.length := by omega
            rw [HTA.out]
            cases hh : hasL h (k : Int)
            · have HNX := Lib.hid (HNk.out hh)
              clear hh
              have hki0 : (0 : Int) ≤ (k : Int) := by omega
              have hki1 : (k : Int) < (P.length : Int) := by omega
              have HLK := Lib.hid (show (h ++ [(k : Int)]).length + m = P.length by have := HLM.out; rw [List.length_append, List.length_singleton]; omega)
              have HRK := Lib.hid (show ∀ i, i < (h ++ [(k : Int)]).length → 0 ≤ gt (h ++ [(k : Int)]) i ∧ gt (h ++ [(k : Int)]) i < (P.length : Int) from fun i hi => by
                rw [List.length_append, List.length_singleton] at hi
                by_cases e : i = h.length
                · rw [e, gt_snoc_last]; omega
                · rw [gt_snoc_lt (by omega)]; exact HR.out i (by omega))
              have e0 := (hb.cell (p := ⟨w.heap.size, 0, none⟩) s0).trans a0
              have e1 := (hb.cell (p := ⟨w.heap.size, 1, none⟩) s0).trans a1
              have q0 : w.heap.size < wr.heap.size := by omega
              have hrhr := hrh0.below hb rfl
              have hrdr := hrd0.below hb rfl
              rcases Nat.eq_zero_or_pos h.length with hz | hz
              · have HCK := Lib.hid (show cosF s P h = cosF s P (h ++ [(k : Int)]) by have : h = [] := List.length_eq_zero_iff.1 hz; subst this; rw [cos_nil, cos_one])
                have hz1 : ¬ (0 : Int) < (h.length : Int) := by omega
                have hz2 : decide ((0 : Int) < (h.length : Int)) = false := decide_eq_false hz1
                have hz3 : decide (0 < h.length) = false := decide_eq_false (by omega)
                clear hz
                go_upto_region 17 with (fail)
                have hVs : W0.heap.size ≤ wr.heap.size := hb.size
                have HOB := Lib.hid hob
                have HBB := Lib.hid hb
                clear hob hb
                go_region_held3 (fun w' => w'.cell? ⟨w.heap.size, 0, none⟩ = some (.int .i64 s) ∧ w'.cell? ⟨w.heap.size, 1, none⟩ = some (.int .i64 t) ∧ w'.cell? ⟨w.heap.size, 2, none⟩ = some (.slice A P.length c) ∧ Below wr.heap.size wr w')
                  (first | exact hd3_start e0 e1 e2 rfl | exact ⟨e0, e1, e2, Below.refl _ _⟩ | assumption | exact hd3_keep q0 q0 q0 (by assumption) (((Below.refl _ _).alloc (Nat.le_refl _) _).drew) | exact hd3_keep q0 q0 q0 (by assumption) ((Below.refl _ _).alloc (Nat.le_refl _) _) | exact hd3C_keep q0 q0 q0 (by assumption) hbn1 | exact hd3C_keep q0 q0 q0 (by assumption) hbn2 | exact hd3_keep q0 q0 q0 (by assumption) hbn3)
                  (first
                    | (refine step_app_ints rfl (.tmp 76) (.tmp 77) _ rfl 3 Try.underlying25 (by kernel_rfl) wr.heap.size _ _ _ h.length [] h (some ⟨gh, 0, none⟩) ch rfl rfl rfl rfl rfl (by first | exact OwnI.lit0 wr _ | exact (OwnI.lit0 wr _).alloc _ | exact (iown_drew (OwnI.lit0 wr _)).alloc _ | exact iown_one1 _ _ _) (hrhr.below (hd3_bel (by assumption)) rfl) (by simp; omega) (hd3_bel (by assumption)).size ?_; intro g1 c1 w1 hown1 hbn1 hgr1)
                    | (refine step_app_ints rfl (.tmp 78) (.tmp 80) _ rfl 3 Try.underlying25 (by kernel_rfl) wr.heap.size g1 c1 _ _ ([] ++ h) [(k : Int)] _ 1 rfl rfl rfl rfl rfl (by first | exact hown1 | exact hown1.alloc _) (by first | exact ird_one _ _ _ | exact ird_kept (ird_one1 _ _ _ _) hgr1 (by omega) | exact ird_kept (ird_alloc (ird_one _ _ _) _) hgr1 (by omega) | exact ird_kept (ird_drew (ird_one1 _ _ _ _)) hgr1 (by omega) | exact ird_kept (ird_drew (ird_alloc (ird_one _ _ _) _)) hgr1 (by omega) | exact ird_kept (ird_drew (ird_alloc (ird_drew (ird_one _ _ _)) _)) hgr1 (by omega)) (by simp; omega) (hd3_bel (by assumption)).size ?_; intro g2 c2 w2 hown2 hbn2 hgr2; rw [List.nil_append] at hown2)
                    | (go_at_call 96; refine (IH.out _ c (h ++ [(k : Int)]) g2 c2 (h.length + 1) _ _ (by simp) HCK.out (hrdr.below (hd3_bel (by assumption)) rfl) hown2.rdA HLK.out HRK.out).mono ?_; rintro e w3 ⟨A3, c3, rfl, ho3, _, _, _, _, hbn3⟩; have ho3b := ho3.base_le (Nat.le_trans hVs (hd3_bel (by assumption)).size)))
                all_goals
                  have hB3 : Below W0.heap.size W0 w3 := HBB.out.trans ((hd3_bel (by assumption)).mono hVs)
                  have hob3 : OwnI 3 W0.heap.size w3 (.slice Ab st.1.length cb) st.1 := HOB.out.below (hd3_bel (by assumption)) rfl
                  obtain ⟨Q, hQ⟩ : ∃ Q, Q = sr s P m (h ++ [(k : Int)]) := ⟨_, rfl⟩
                  rw [← hQ] at HNX ho3b ⊢
                  clear hQ
                  by_cases h1 : st.2 < 0
                  · have HE := Lib.hid (show srTo s P m h (k + 1) = Q by rw [HNX.out]; exact fst2_yes (Or.inl h1))
                    go_wp2
                    go_roundw
                    case rel => exact ⟨k + 1, A3, c3, by omega, by rw [HE.out], by rw [HE.out], by go_num, by rw [HE.out]; exact ho3b, hB3⟩
                    case measure => simp [intOf]; omega
                  · by_cases h2 : Q.2 < st.2
                    · have HE := Lib.hid (show srTo s P m h (k + 1) = Q by rw [HNX.out]; exact fst2_yes (Or.inr h2))
                      go_wp2
                      go_roundw
                      case rel => exact ⟨k + 1, A3, c3, by omega, by rw [HE.out], by rw [HE.out], by go_num, by rw [HE.out]; exact ho3b, hB3⟩
                      case measure => simp [intOf]; omega
                    · have HE := Lib.hid (show srTo s P m h (k + 1) = st by rw [HNX.out]; exact fst2_no (fun hh => hh.elim h1 h2))
                      go_wp2
                      go_roundw
                      case rel => exact ⟨k + 1, Ab, cb, by omega, by rw [HE.out], by rw [HE.out], by go_num, by rw [HE.out]; exact hob3, hB3⟩
                      case measure => simp [intOf]; omega
              · obtain ⟨n, hn⟩ : ∃ n, h.length = n + 1 := ⟨h.length - 1, by omega⟩
                have hxr := HR.out n (by omega)
                obtain ⟨x, hx⟩ : ∃ x : Nat, gt h n = (x : Int) := ⟨(gt h n).toNat, by omega⟩
                have hxP : x < P.length := by omega
                have HCK := Lib.hid (cos_snoc (s := s) (P := P) (y := k) hn hx)
                obtain ⟨b2, o2, he, lb2, hc2⟩ := hrh0 (by omega)
                injection he with he
                injection he with he1 he2
                subst he1 he2
                have d1 := (hb.cell (p := ⟨gh, 0 + n, none⟩) lb2).trans (hc2 n (by omega))
                rw [Nat.zero_add, hx] at d1
                obtain ⟨b, o, rfl, lb, hc⟩ := hrd0 (by omega)
                have p1 := (hb.cell (p := ⟨b, o + x * 2, none⟩) lb).trans (hc x hxP).1
                have p2 := (hb.cell (p := ⟨b, o + x * 2 + 1, none⟩) lb).trans (hc x hxP).2
                have p3 := (hb.cell (p := ⟨b, o + k * 2, none⟩) lb).trans (hc k hkl).1
                have p4 := (hb.cell (p := ⟨b, o + k * 2 + 1, none⟩) lb).trans (hc k hkl).2
                have mW : b < wr.heap.size := by omega
                have mG : gh < wr.heap.size := by omega
                have h0a : (0 : Int) ≤ (n : Int) := by omega
                have h0b : (n : Int) < (h.length : Int) := by omega
                have h0d : (x : Int) < (P.length : Int) := by omega
                have h0g : (0 : Int) ≤ (x : Int) := by omega
                have hz0 : (0 : Int) < (h.length : Int) := by omega
                have HW1' := Lib.hid (show IntKind.i64.wrap ((h.length : Int) - 1) = (n : Int) by rw [show ((h.length : Int) - 1) = (n : Int) by omega]; exact IntWalk.i64_in _ (by omega))
                have hcb := HCB.out h (by omega)
                have hmb := HMB.out x k
                have HW2' := Lib.hid (show IntKind.i64.wrap (cosF s P h + mvZ s P x k) = cosF s P h + mvZ s P x k from IntWalk.i64_in _ (by omega))
                have HMV := Lib.hid (show moveZ (tm P x) (pt P x) (tm P k) (pt P k) s = mvZ s P x k by unfold mvZ; rfl)
                clear hc hc2 hx hn hz hxr
                go_upto_region 16 with (fail)
                have hw1 := HW1'.out
                have hw2 := HW2'.out
                go_region_held3 (fun w' => w'.cell? ⟨w.heap.size, 0, none⟩ = some (.int .i64 s) ∧ w'.cell? ⟨w.heap.size, 1, none⟩ = some (.int .i64 t) ∧ w'.cell? ⟨w.heap.size, 2, none⟩ = some (.slice (some ⟨b, o, none⟩) P.length c) ∧ w'.cell? ⟨b, o + x * 2, none⟩ = some (.int .i64 (tm P x)) ∧ w'.cell? ⟨b, o + x * 2 + 1, none⟩ = some (.int .i64 (pt P x)) ∧ w'.cell? ⟨b, o + k * 2, none⟩ = some (.int .i64 (tm P k)) ∧ w'.cell? ⟨b, o + k * 2 + 1, none⟩ = some (.int .i64 (pt P k)) ∧ w'.cell? ⟨gh, n, none⟩ = some (.int .i64 (x : Int)) ∧ Below wr.heap.size wr w') (first | exact hd8_start e0 e1 e2 p1 p2 p3 p4 d1 rfl | assumption | exact hd8_keep q0 q0 q0 mW mW mW mW mG (by assumption) hbz)
                  ((go_at_call 74; refine (spec_Move _ _ _ _ _ _).mono ?_; rintro e wz ⟨rfl, hbz⟩; rw [HMV.out]))
                clear hw1 hw2
                rename_i hH
                have hbl := hd8_bel hH
                obtain ⟨z0, z1, z2, _⟩ := hH
                have hbz2 := hb.trans (hbl.mono hbs)
                have hobz := hob.below hbl rfl
                have hrhz := hrhr.below hbl rfl
                have hrdz := hrdr.below hbl rfl
                have hwz := hbl.size
                have qz : w.heap.size < wz.heap.size := by omega
                clear hbl e0 e1 e2 p1 p2 p3 p4 d1
                go_upto_region 17 with (fail)
                have hVs : W0.heap.size ≤ wz.heap.size := hbz2.size
                have HOB := Lib.hid hobz
                have HBB := Lib.hid hbz2
                clear hobz hbz2
                go_region_held3 (fun w' => w'.cell? ⟨w.heap.size, 0, none⟩ = some (.int .i64 s) ∧ w'.cell? ⟨w.heap.size, 1, none⟩ = some (.int .i64 t) ∧ w'.cell? ⟨w.heap.size, 2, none⟩ = some (.slice (some ⟨b, o, none⟩) P.length c) ∧ Below wz.heap.size wz w')
                  (first | exact hd3_start z0 z1 z2 rfl | exact ⟨z0, z1, z2, Below.refl _ _⟩ | assumption | exact hd3_keep qz qz qz (by assumption) (((Below.refl _ _).alloc (Nat.le_refl _) _).drew) | exact hd3_keep qz qz qz (by assumption) ((Below.refl _ _).alloc (Nat.le_refl _) _) | exact hd3C_keep qz qz qz (by assumption) hbn1 | exact hd3C_keep qz qz qz (by assumption) hbn2 | exact hd3_keep qz qz qz (by assumption) hbn3)
                  (first
                    | (refine step_app_ints rfl (.tmp 76) (.tmp 77) _ rfl 3 Try.underlying25 (by kernel_rfl) wz.heap.size _ _ _ h.length [] h (some ⟨gh, 0, none⟩) ch rfl rfl rfl rfl rfl (by first | exact OwnI.lit0 wz _ | exact (OwnI.lit0 wz _).alloc _ | exact (iown_drew (OwnI.lit0 wz _)).alloc _ | exact iown_one1 _ _ _) (hrhz.below (hd3_bel (by assumption)) rfl) (by simp; omega) (hd3_bel (by assumption)).size ?_; intro g1 c1 w1 hown1 hbn1 hgr1)
                    | (refine step_app_ints rfl (.tmp 78) (.tmp 80) _ rfl 3 Try.underlying25 (by kernel_rfl) wz.heap.size g1 c1 _ _ ([] ++ h) [(k : Int)] _ 1 rfl rfl rfl rfl rfl (by first | exact hown1 | exact hown1.alloc _) (by first | exact ird_one _ _ _ | exact ird_kept (ird_one1 _ _ _ _) hgr1 (by omega) | exact ird_kept (ird_alloc (ird_one _ _ _) _) hgr1 (by omega) | exact ird_kept (ird_drew (ird_one1 _ _ _ _)) hgr1 (by omega) | exact ird_kept (ird_drew (ird_alloc (ird_one _ _ _) _)) hgr1 (by omega) | exact ird_kept (ird_drew (ird_alloc (ird_drew (ird_one _ _ _)) _)) hgr1 (by omega)) (by simp; omega) (hd3_bel (by assumption)).size ?_; intro g2 c2 w2 hown2 hbn2 hgr2; rw [List.nil_append] at hown2)
                    | (go_at_call 96; refine (IH.out _ c (h ++ [(k : Int)]) g2 c2 (h.length + 1) _ _ (by simp) HCK.out.symm (hrdz.below (hd3_bel (by assumption)) rfl) hown2.rdA HLK.out HRK.out).mono ?_; rintro e w3 ⟨A3, c3, rfl, ho3, _, _, _, _, hbn3⟩; have ho3b := ho3.base_le (Nat.le_trans hVs (hd3_bel (by assumption)).size)))
                all_goals
                  have hB3 : Below W0.heap.size W0 w3 := HBB.out.trans ((hd3_bel (by assumption)).mono hVs)
                  have hob3 : OwnI 3 W0.heap.size w3 (.slice Ab st.1.length cb) st.1 := HOB.out.below (hd3_bel (by assumption)) rfl
                  obtain ⟨Q, hQ⟩ : ∃ Q, Q = sr s P m (h ++ [(k : Int)]) := ⟨_, rfl⟩
                  rw [← hQ] at HNX ho3b ⊢
                  clear hQ
                  by_cases h1 : st.2 < 0
                  · have HE := Lib.hid (show srTo s P m h (k + 1) = Q by rw [HNX.out]; exact fst2_yes (Or.inl h1))
                    go_wp2
                    go_roundw
                    case rel => exact ⟨k + 1, A3, c3, by omega, by rw [HE.out], by rw [HE.out], by go_num, by rw [HE.out]; exact ho3b, hB3⟩
                    case measure => simp [intOf]; omega
                  · by_cases h2 : Q.2 < st.2
                    · have HE := Lib.hid (show srTo s P m h (k + 1) = Q by rw [HNX.out]; exact fst2_yes (Or.inr h2))
                      go_wp2
                      go_roundw
                      case rel => exact ⟨k + 1, A3, c3, by omega, by rw [HE.out], by rw [HE.out], by go_num, by rw [HE.out]; exact ho3b, hB3⟩
                      case measure => simp [intOf]; omega
                    · have HE := Lib.hid (show srTo s P m h (k + 1) = st by rw [HNX.out]; exact fst2_no (fun hh => hh.elim h1 h2))
                      go_wp2
                      go_roundw
                      case rel => exact ⟨k + 1, Ab, cb, by omega, by rw [HE.out], by rw [HE.out], by go_num, by rw [HE.out]; exact hob3, hB3⟩
                      case measure => simp [intOf]; omega
            · have HE := Lib.hid (HHk.out hh)
              clear hh
              go_wp2
              go_roundw
              case rel => exact ⟨k + 1, Ab, cb, by omega, by rw [HE.out], by rw [HE.out], by go_num, by rw [HE.out]; exact hob, hb⟩
              case measure => simp [intOf]; omega
      · obtain rfl : k = P.length := by omega
        have hbF := hb0.trans (hb.mono (Nat.le_of_lt s0))
        have hoF := hob.base_le (Nat.le_of_lt s0)
        go_wp2
        go_ret2
        rw [HF.out, ← HST.out]
        exact RetIK.mk hoF hbF
end Go.Proofs.Ythgeijgojdmidaa
