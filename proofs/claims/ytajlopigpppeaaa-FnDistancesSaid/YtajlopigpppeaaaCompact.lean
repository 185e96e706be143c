/- slices.Compact at a row of pairs that the call owns. -/
import Derived.Test.YtajlopigpppeaaaSrt
import Derived.Test.YtajlopigpppeaaaSortB
import Derived.Test.YtajlopigpppeaaaRows
import Derived.Lib.SliceRun
import Derived.Deep.QuietTactic
import Derived.BigQuiet
import Derived.WalkSpells
import Derived.Outline
import Derived.Deep.Cut
namespace Go.Proofs.Ytajlopigpppeaaa
open Go.ChangeShapes Go.WideShapes Go.ChangeAt Go.RowKit
set_option linter.unusedVariables false
section
variable {P : Program} {ops : Array Oper} {rest : List Oper} {o : Oper} {a : Act} {Q : Exit → Act → World → Prop} {w : World}
theorem run_clear_pairs (t e ty : TypeId) (ht : P.underlying t = some (.slice e)) (hv : ∀ w, (zeroValue e).run P w = .ok (.agg #[.int .i64 0, .int .i64 0]) w) (b off n c : Nat) (hn : 0 < n)
    (hc : ∀ j, j < n * 2 → (w.cell? ⟨b, off + j, none⟩).isSome = true) (hf : ∀ j, j < n * 2 → w.frozen? ⟨b, off + j, none⟩ = false) :
    (Builtin.clear_ #[t] ty #[.slice (some ⟨b, off, none⟩) n c]).run P w = .ok (.tuple #[]) (w.setCells b off (Builtin.zeroCells #[.int .i64 0, .int .i64 0] n).toList) := by
  have hl : (Builtin.zeroCells #[Value.int .i64 0, Value.int .i64 0] n).toList.length = n * 2 := by simp [Builtin.zeroCells]
  have hone : ∀ v ∈ (Builtin.zeroCells #[Value.int .i64 0, Value.int .i64 0] n).toList, v.oneCell' = true := by
    intro v hv'
    simp [Builtin.zeroCells] at hv'
    obtain ⟨i, _, rfl⟩ := hv'
    rcases Nat.mod_two_eq_zero_or_one i with h | h <;> simp [h] <;> rfl
  have hst := run_storeCells_cells (P := P) b off (Builtin.zeroCells #[Value.int .i64 0, Value.int .i64 0] n).toList 0 w (by rw [hl]; simpa using hc) (by rw [hl]; simpa using hf) hone
  simp only [Nat.add_zero] at hst
  obtain ⟨m, rfl⟩ : ∃ m, n = m + 1 := ⟨n - 1, by omega⟩
  simp [Builtin.clear_, run_underlying ht, hv, hst, Value.cells]
theorem wpList_clear (hgd : o.guard = none) (x : Operand) (t : TypeId) (ho : o.op = .call { callee := .builtin .clear, args := #[x], argTypes := #[t] })
    (e : TypeId) (ht : P.underlying t = some (.slice e)) (hv : ∀ w, (zeroValue e).run P w = .ok (.agg #[.int .i64 0, .int .i64 0]) w) (b off n c : Nat) (hx : a.eval x = .slice (some ⟨b, off, none⟩) n c) (hn : 0 < n)
    (hc : ∀ j, j < n * 2 → (w.cell? ⟨b, off + j, none⟩).isSome = true) (hf : ∀ j, j < n * 2 → w.frozen? ⟨b, off + j, none⟩ = false)
    (h : wpList P ops Q rest (a.put o.dst (.tuple #[])) (w.setCells b off (Builtin.zeroCells #[.int .i64 0, .int .i64 0] n).toList)) : wpList P ops Q (o :: rest) a w := by
  refine wpList_plain hgd fun K hK => ?_
  have hr := run_clear_pairs (P := P) (w := w) t e o.type ht hv b off n c hn hc hf
  unfold Oper.wp execOp
  simp only [ho, resolve, invoke, builtin, Sem.run_bind, Sem.run_pure, Result.andThen_ok, List.map_toArray, List.map_cons, List.map_nil, hx, hr]
  exact hK _ _ h
end
theorem getD_pair (D : List (Int × Int)) (k : Nat) : D.getD k (0, 0) = (tm D k, pt D k) := rfl
theorem getD_eq {D : List (Int × Int)} {k m : Nat} : D.getD k (0, 0) = D.getD m (0, 0) ↔ tm D k = tm D m ∧ pt D k = pt D m := by
  rw [getD_pair, getD_pair, Prod.mk.injEq]
theorem cpZ_small {D : List (Int × Int)} (h : D.length < 2) : cpZ D D.length = D := by
  match D, h with
  | [], _ => rfl
  | [x], _ => simp [cpZ]
theorem tmpt_set_ne {M : List (Int × Int)} {K j : Nat} {x : Int × Int} (h : K ≠ j) : tm (M.set K x) j = tm M j ∧ pt (M.set K x) j = pt M j := by
  simp [tm, pt, List.getD, List.getElem?_set_ne h]
theorem take_set1 {M : List (Int × Int)} {K : Nat} {x : Int × Int} (hK : K < M.length) : (M.set K x).take (K + 1) = M.take K ++ [x] := by
  rw [List.take_succ_eq_append_getElem (by simpa using hK), List.getElem_set_self, List.take_set_of_le (Nat.le_refl K)]
theorem ownsRow_pre {w : World} {B e g n c K : Nat} {ys : List Value} (h : w.ownsRow B e 2 (.slice (some ⟨g, 0, none⟩) n c) n ys) (hK : K ≤ n) : w.ownsRow B e 2 (.slice (some ⟨g, 0, none⟩) K c) K (ys.take (K * 2)) := by
  have hy := h.1
  rcases h.2 with ⟨h', _⟩ | ⟨g', cap', cur, h', hBg, hh, hnc, hm, hcs, htake⟩
  · cases h'
  · injection h' with h1 h2 h3
    injection h1 with h1
    injection h1 with h1
    subst h1 h3
    refine ⟨by rw [List.length_take, hy, Nat.min_eq_left (Nat.mul_le_mul_right _ hK)], .inr ⟨g, c, cur, rfl, hBg, hh, by omega, hm, hcs, ?_⟩⟩
    rw [← htake, List.take_take, Nat.min_eq_left (Nat.mul_le_mul_right _ hK)]
theorem pairs_take (l : List (Int × Int)) (K : Nat) (hK : K ≤ l.length) : pairs (l.take K) = (pairs l).take (K * 2) := by
  have hlen : (l.take K).length = K := by simp; omega
  have h2 : pairs l = pairs (l.take K) ++ pairs (l.drop K) := by rw [← pairs_app, List.take_append_drop]
  rw [h2, List.take_append_of_le_length (by rw [pairs_length, hlen]; exact Nat.le_refl _)]
  exact (List.take_of_length_le (by rw [pairs_length, hlen]; exact Nat.le_refl _)).symm
theorem OwnN.clear_pre {e B g n c K : Nat} {w : World} {M : List (Int × Int)} (vs : List Value) (h : OwnN e B w (.slice (some ⟨g, 0, none⟩) n c) M) (hn : M.length = n) (hK : K ≤ n) :
    OwnN e B (w.setCells g (K * 2) vs) (.slice (some ⟨g, 0, none⟩) K c) (M.take K) ∧ w.grownBy (w.setCells g (K * 2) vs) (some g) := by
  have h' : w.ownsRow B e 2 (.slice (some ⟨g, 0, none⟩) n c) n (pairs M) := by rw [← hn]; rw [← hn] at h; exact h
  obtain ⟨ys, hy, hyp, hyg⟩ := OwnN.cleared vs (K * 2) w (pairs M) h'
  refine ⟨?_, hyg⟩
  have hp := ownsRow_pre hy hK
  have hl : (M.take K).length = K := by simp; omega
  have hys : ys.take (K * 2) = pairs (M.take K) := by
    rw [pairs_take M K (by omega)]
    apply List.ext_getElem?
    intro j
    by_cases hj : j < K * 2
    · rw [List.getElem?_take_of_lt hj, List.getElem?_take_of_lt hj, hyp j hj]
    · rw [List.getElem?_take_eq_none (by omega), List.getElem?_take_eq_none (by omega)]
  rw [hys] at hp
  unfold OwnN
  rw [hl]
  exact hp
attribute [local irreducible] tm pt cpZ in
set_option maxHeartbeats 1600000 in
theorem compact_any (B g c : Nat) (D : List (Int × Int)) (w : World) (hown : OwnN 42 B w (.slice (some ⟨g, 0, none⟩) D.length c) D) (hl : D.length ≤ 1000000) :
    Calls Try.prog 92 #[.slice (some ⟨g, 0, none⟩) D.length c] w fun en w' => en = .returned (.slice (some ⟨g, 0, none⟩) (cpZ D D.length).length c) ∧
      OwnN 42 B w' (.slice (some ⟨g, 0, none⟩) (cpZ D D.length).length c) (cpZ D D.length) ∧ w.grownBy w' (some g) := by
  by_cases h2 : D.length < 2
  · have HC := Lib.hid (cpZ_small h2)
    have h2' : (D.length : Int) < 2 := by omega
    go_enter Try.func92, Try.ntmps92
    go_wp2
    go_ret
    rw [HC.out]
    exact ⟨rfl, hown, World.grownBy.refl _ _⟩
  · obtain ⟨hcl, hcm⟩ : D.length ≤ c ∧ c ≤ maxLen := by
      obtain ⟨A', c', he, h3, h4, _⟩ := hown.rd
      injection he with _ _ he
      subst he
      exact ⟨h3, h4⟩
    unfold maxLen at hcm
    have h2' : ¬ (D.length : Int) < 2 := by omega
    go_enter Try.func92, Try.ntmps92
    go_wp2
    go_loopw [3] (fun i wr => ∃ k : Nat, 1 ≤ k ∧ k ≤ D.length ∧ i = .int .i64 k ∧ cpZ D k = D.take k ∧ OwnN 42 B wr (.slice (some ⟨g, 0, none⟩) D.length c) D ∧ w.grownBy wr (some g)) (fun i _ => D.length - (intOf i).toNat)
    case atStart => exact ⟨1, by omega, by omega, rfl, by
      rw [cpZ_yes (Or.inl rfl)]
      have : cpZ D 0 = [] := by rw [cpZ]
      rw [this]
      match D, h2 with
      | x :: D, _ => simp [List.getD], hown, World.grownBy.refl _ _⟩
    case round =>
      obtain ⟨k, hk1, hk2, rfl, hM, ho, hg⟩ := hrel
      have HM := Lib.hid hM
      clear hM
      by_cases hlt : k < D.length
      · obtain ⟨m, hm⟩ : ∃ m, k = m + 1 := ⟨k - 1, by omega⟩
        obtain ⟨g', he, hBg, hgl, hcc, hfz⟩ := ho.head (by omega)
        injection he with he
        injection he with he
        subst he
        have k1 := (hcc k hlt).1
        have k2 := (hcc k hlt).2
        have k3 := (hcc m (by omega)).1
        have k4 := (hcc m (by omega)).2
        have h0a : (0 : Int) ≤ (k : Int) := by omega
        have h0b : (k : Int) < (D.length : Int) := by omega
        have h0c : (0 : Int) ≤ (m : Int) := by omega
        have h0d : (m : Int) < (D.length : Int) := by omega
        have HW := Lib.hid (show IntKind.i64.wrap ((k : Int) - 1) = (m : Int) by rw [show ((k : Int) - 1) = (m : Int) by omega]; exact IntWalk.i64_in _ (by omega))
        have HMK := Lib.hid (show k - 1 = m by omega)
        clear hcc hfz hm
        by_cases e1 : tm D k = tm D m
        · by_cases e2 : pt D k = pt D m
          · have q1 : (tm D k == tm D m) = true := by simpa using e1
            have q2 : (pt D k == pt D m) = true := by simpa using e2
            clear e1 e2
            go_wp2_with fail
            have v1 := HW.out
            go_quiet (fail)
            clear v1
            go_wp2
            obtain ⟨d, hd⟩ : ∃ d, d = D.length - k := ⟨_, rfl⟩
            rw [← hd]
            have hd1 : d + k ≤ D.length := by omega
            have hd2 : D.length ≤ d + k := by omega
            have HC1 := Lib.hid (show cpZ D (k + 1) = D.take k by rw [cpZ_no (by omega) (by rw [HMK.out]; exact getD_eq.2 ⟨by simpa using q1, by simpa using q2⟩)]; exact HM.out)
            have ho1 := ho.below (bel_drewN (Below.refl _ _) nq) rfl
            have hg1 := grown_drewN hg nq
            clear hd k1 k2 k3 k4 q1 q2 ho hg
            go_loopw [3, 5] (fun v i wt => ∃ (t K : Nat) (M : List (Int × Int)), 1 ≤ t ∧ t ≤ d ∧ i = .int .i64 t ∧ v = .int .i64 K ∧ M.length = D.length ∧ (∀ j, k + t ≤ j + 1 → j < D.length → tm M j = tm D j ∧ pt M j = pt D j) ∧ M.take K = cpZ D (k + t) ∧ (cpZ D (k + t)).length = K ∧ K + 1 ≤ k + t ∧ OwnN 42 B wt (.slice (some ⟨g, 0, none⟩) D.length c) M ∧ w.grownBy wt (some g)) (fun _ i _ => d - (intOf i).toNat)
            case atStart => exact ⟨1, k, D, by omega, by omega, rfl, rfl, rfl, fun _ _ _ => ⟨rfl, rfl⟩, HC1.out.symm, by rw [HC1.out]; simp; omega, by omega, ho1, hg1⟩
            case round =>
              clear ho1 hg1
              obtain ⟨t, K, M, ht1, ht2, rfl, rfl, hML, hMD, hMT, hKL, hKr, ho, hg⟩ := hrel
              have HML := Lib.hid hML
              have HMD := Lib.hid hMD
              have HMT := Lib.hid hMT
              have HKL := Lib.hid hKL
              clear hMD hMT hKL
              obtain ⟨g', he, hBg, hgl, hcc, hfz⟩ := ho.head (by omega)
              injection he with he
              injection he with he
              subst he
              by_cases hlt2 : t < d
              · obtain ⟨s, hs⟩ : ∃ s, t = s + 1 := ⟨t - 1, by omega⟩
                have k1 := (hcc (k + t) (by omega)).1
                have k2 := (hcc (k + t) (by omega)).2
                have k3 := (hcc (k + s) (by omega)).1
                have k4 := (hcc (k + s) (by omega)).2
                have k5 := (hcc K (by omega)).1
                have k6 := (hcc K (by omega)).2
                have f1 := hfz (K * 2)
                have f2 := hfz (K * 2 + 1)
                rw [(HMD.out (k + t) (by omega) (by omega)).1, show (k + t) * 2 = k * 2 + t * 2 by omega] at k1
                rw [(HMD.out (k + t) (by omega) (by omega)).2, show (k + t) * 2 = k * 2 + t * 2 by omega] at k2
                rw [(HMD.out (k + s) (by omega) (by omega)).1, show (k + s) * 2 = k * 2 + s * 2 by omega] at k3
                rw [(HMD.out (k + s) (by omega) (by omega)).2, show (k + s) * 2 = k * 2 + s * 2 by omega] at k4
                have h1a : (0 : Int) ≤ (t : Int) := by omega
                have h1b : (t : Int) < (d : Int) := by omega
                have h1c : (0 : Int) ≤ (s : Int) := by omega
                have h1d : (s : Int) < (d : Int) := by omega
                have h1e : (0 : Int) ≤ (K : Int) := by omega
                have h1f : (K : Int) < (D.length : Int) := by omega
                have HW2 := Lib.hid (show IntKind.i64.wrap ((t : Int) - 1) = (s : Int) by rw [show ((t : Int) - 1) = (s : Int) by omega]; exact IntWalk.i64_in _ (by omega))
                have HMS := Lib.hid (show k + t - 1 = k + s by omega)
                clear hcc hfz hs hML
                by_cases e1 : tm D (k + t) = tm D (k + s)
                · by_cases e2 : pt D (k + t) = pt D (k + s)
                  · have q1 : (tm D (k + t) == tm D (k + s)) = true := by simpa using e1
                    have q2 : (pt D (k + t) == pt D (k + s)) = true := by simpa using e2
                    have HC := Lib.hid (show cpZ D (k + (t + 1)) = cpZ D (k + t) by rw [← Nat.add_assoc]; exact cpZ_no (by omega) (by rw [HMS.out]; exact getD_eq.2 ⟨e1, e2⟩))
                    clear e1 e2
                    go_wp2_with fail
                    have v1 := HW2.out
                    go_quiet (fail)
                    clear v1
                    go_wp2
                    go_roundw
                    case rel => exact ⟨t + 1, K, M, by omega, by omega, by go_num, rfl, HML.out, fun j h1 h2 => HMD.out j (by omega) h2, by rw [HC.out]; exact HMT.out, by rw [HC.out]; exact HKL.out, by omega, ho.below (bel_drewN (Below.refl _ _) _) rfl, grown_drewN hg _⟩
                    case measure => simp [intOf]; omega
                  · have q1 : (tm D (k + t) == tm D (k + s)) = true := by simpa using e1
                    have q2 : (pt D (k + t) == pt D (k + s)) = false := by simpa using e2
                    have HC := Lib.hid (show cpZ D (k + (t + 1)) = cpZ D (k + t) ++ [(tm D (k + t), pt D (k + t))] by rw [← Nat.add_assoc, cpZ_yes (Or.inr (by rw [HMS.out]; exact fun h => e2 (getD_eq.1 h).2)), getD_pair])
                    clear e1 e2
                    go_wp2_with fail
                    have v1 := HW2.out
                    go_quiet (fail)
                    clear v1
                    have hst := (ho.below (bel_drewN (Below.refl _ _) nq) rfl).stored K (tm D (k + t)) (pt D (k + t))
                    have HS := Lib.hid hst.1
                    have HG := Lib.hid (grown_trans (grown_drewN hg nq) hst.2)
                    clear hst
                    go_wp2
                    go_roundw
                    case rel => exact ⟨t + 1, K + 1, M.set K (tm D (k + t), pt D (k + t)), by omega, by omega, by go_num, by go_num, by rw [List.length_set]; exact HML.out, fun j h1 h2 => by
                      have hne := tmpt_set_ne (M := M) (x := (tm D (k + t), pt D (k + t))) (show K ≠ j by omega)
                      rw [hne.1, hne.2]
                      exact HMD.out j (by omega) h2, by rw [take_set1 (by have := HML.out; omega), HC.out, HMT.out], by rw [HC.out, List.length_append, HKL.out]; rfl, by omega, HS.out, HG.out⟩
                    case measure => simp [intOf]; omega
                · have q1 : (tm D (k + t) == tm D (k + s)) = false := by simpa using e1
                  have HC := Lib.hid (show cpZ D (k + (t + 1)) = cpZ D (k + t) ++ [(tm D (k + t), pt D (k + t))] by rw [← Nat.add_assoc, cpZ_yes (Or.inr (by rw [HMS.out]; exact fun h => e1 (getD_eq.1 h).1)), getD_pair])
                  clear e1
                  go_wp2_with fail
                  have v1 := HW2.out
                  go_quiet (fail)
                  clear v1
                  have hst := (ho.below (bel_drewN (Below.refl _ _) nq) rfl).stored K (tm D (k + t)) (pt D (k + t))
                  have HS := Lib.hid hst.1
                  have HG := Lib.hid (grown_trans (grown_drewN hg nq) hst.2)
                  clear hst
                  go_wp2
                  go_roundw
                  case rel => exact ⟨t + 1, K + 1, M.set K (tm D (k + t), pt D (k + t)), by omega, by omega, by go_num, by go_num, by rw [List.length_set]; exact HML.out, fun j h1 h2 => by
                    have hne := tmpt_set_ne (M := M) (x := (tm D (k + t), pt D (k + t))) (show K ≠ j by omega)
                    rw [hne.1, hne.2]
                    exact HMD.out j (by omega) h2, by rw [take_set1 (by have := HML.out; omega), HC.out, HMT.out], by rw [HC.out, List.length_append, HKL.out]; rfl, by omega, HS.out, HG.out⟩
                  case measure => simp [intOf]; omega
              · obtain rfl : t = d := by omega
                have HR := Lib.hid (show k + t = D.length by omega)
                have h1e : (0 : Int) ≤ (K : Int) := by omega
                have h1f : (K : Int) ≤ (D.length : Int) := by omega
                have h1g : (K : Int) ≤ (c : Int) := by omega
                have h1h : ¬ c = K := by omega
                have HSL := Lib.hid (show ((D.length : Int) - (K : Int)).toNat = D.length - K by omega)
                have HCL := Lib.hid hcc
                have HFZ := Lib.hid hfz
                clear hfz hcc
                go_wp2_with (refine wpList_clear rfl (.tmp 56) 26 rfl 42 Try.underlying26 Try.zeroValue42 g (K * 2) (D.length - K) (c - K) rfl (by omega) ?_ ?_ ?_)
                · intro j hj
                  have hm1 := HML.out
                  rcases Nat.mod_two_eq_zero_or_one j with h | h
                  · rw [show K * 2 + j = (K + j / 2) * 2 by omega, (HCL.out (K + j / 2) (by omega)).1]
                    rfl
                  · rw [show K * 2 + j = (K + j / 2) * 2 + 1 by omega, (HCL.out (K + j / 2) (by omega)).2]
                    rfl
                · exact fun j _ => HFZ.out _
                · have hcp := OwnN.clear_pre (K := K) (Builtin.zeroCells #[.int .i64 0, .int .i64 0] (D.length - K)).toList ho HML.out (by omega)
                  have HS := Lib.hid hcp.1
                  have HG := Lib.hid (grown_trans hg hcp.2)
                  clear hcp
                  generalize (wr.setCells g (K * 2) (Builtin.zeroCells #[.int .i64 0, .int .i64 0] (D.length - K)).toList) = wz at HS HG ⊢
                  go_wp2
                  go_ret
                  rw [← HR.out, HKL.out, ← HMT.out]
                  exact ⟨rfl, HS.out, HG.out⟩
          · have HC := Lib.hid (show cpZ D (k + 1) = D.take (k + 1) by rw [cpZ_yes (Or.inr (by rw [HMK.out]; exact fun h => e2 (getD_eq.1 h).2)), HM.out, List.take_succ_eq_append_getElem hlt]; simp [List.getD, hlt])
            have q1 : (tm D k == tm D m) = true := by simpa using e1
            have q2 : (pt D k == pt D m) = false := by simpa using e2
            clear e1 e2
            go_wp2_with fail
            have v1 := HW.out
            go_quiet (fail)
            clear v1
            go_wp2
            go_roundw
            case rel => exact ⟨k + 1, by omega, by omega, by go_num, HC.out, ho.below (bel_drewN (Below.refl _ _) _) rfl, grown_drewN hg _⟩
            case measure => simp [intOf]; omega
        · have HC := Lib.hid (show cpZ D (k + 1) = D.take (k + 1) by rw [cpZ_yes (Or.inr (by rw [HMK.out]; exact fun h => e1 (getD_eq.1 h).1)), HM.out, List.take_succ_eq_append_getElem hlt]; simp [List.getD, hlt])
          have q1 : (tm D k == tm D m) = false := by simpa using e1
          clear e1
          go_wp2_with fail
          have v1 := HW.out
          go_quiet (fail)
          clear v1
          go_wp2
          go_roundw
          case rel => exact ⟨k + 1, by omega, by omega, by go_num, HC.out, ho.below (bel_drewN (Below.refl _ _) _) rfl, grown_drewN hg _⟩
          case measure => simp [intOf]; omega
      · obtain rfl : k = D.length := by omega
        have HL := Lib.hid (show cpZ D D.length = D by rw [HM.out, List.take_length])
        go_wp2
        go_ret
        rw [HL.out]
        exact ⟨rfl, ho, hg⟩
def RetC (e B g c : Nat) (L : List (Int × Int)) (w : World) (en : Ending) (w' : World) : Prop :=
  en = .returned (.slice (some ⟨g, 0, none⟩) L.length c) ∧ OwnN e B w' (.slice (some ⟨g, 0, none⟩) L.length c) L ∧ w.grownBy w' (some g)
end Go.Proofs.Ytajlopigpppeaaa
