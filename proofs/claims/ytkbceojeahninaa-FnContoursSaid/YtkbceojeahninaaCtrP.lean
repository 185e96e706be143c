/- The plain laws of FnContours: a contour is that of its tune, and backward it is turned. -/
import Derived.Test.YtkbceojeahninaaFrom
import Derived.Test.YtkbceojeahninaaFnd
import Derived.Test.YtkbceojeahninaaUps
import Derived.Test.YtkbceojeahninaaTurnC
import Derived.Test.YtkbceojeahninaaBackS
namespace Go.Proofs.Ytkbceojeahninaa
open Go.ChangeShapes Go.WideShapes Go.ChangeAt Go.RowKit
set_option linter.unusedVariables false
theorem mk_eta (s : ByteArray) : mkS s.data.toList = s := by cases s; simp [mkS]
/-- What a drawn contour is. -/
def drC (s : ByteArray) : Prop := cok s = true ∧ s.size ≤ 8
theorem drC_len {s : ByteArray} : s.data.toList.length = s.size := by simp
theorem drC_at {s : ByteArray} (h : cok s = true) {k : Nat} (hk : k < s.size) : isL s[k] = true := by
  unfold cok at h
  rw [List.all_eq_true] at h
  exact h _ (List.getElem_mem (l := s.data.toList) (n := k) (by simpa using hk))
theorem drC_mem {s : ByteArray} (h : cok s = true) {c : UInt8} (hc : c ∈ s.data.toList) : isL c = true := by
  unfold cok at h
  rw [List.all_eq_true] at h
  exact h _ hc
theorem isL_or {c : UInt8} (h : isL c = true) : c = 85 ∨ c = 68 ∨ c = 83 := by
  unfold isL at h
  simp only [Bool.or_eq_true, beq_iff_eq] at h
  rcases h with h | h | h
  · exact Or.inl (UInt8.toNat_inj.1 h)
  · exact Or.inr (Or.inl (UInt8.toNat_inj.1 h))
  · exact Or.inr (Or.inr (UInt8.toNat_inj.1 h))
theorem drC_okC {s : ByteArray} (h : drC s) : okC s = true := by
  unfold okC; rw [h.1, decide_eq_true (show s.size ≤ 39 by have := h.2; omega)]; rfl
theorem drC_cokB {s : ByteArray} (h : drC s) : cokB s = true := drC_okC h
theorem frm_tm {s : ByteArray} {f : Int} {n k : Nat} (h : k < n) : tm (frm s f n) k = (k : Int) := by simp [tm, frm, List.getD, h]
theorem lessB_lt {x y u v : Int} (h : x < u) : lessB x y u v = true := by unfold lessB; rw [decide_eq_true h]; rfl
/-- The tune of a contour. -/
theorem ctr_tune {s : ByteArray} (h : drC s) : tuneB (frm s 30 (s.size + 1)) = true := by
  have hn := h.2
  rw [tuneB_all]
  · rw [frm_len]; exact decide_eq_true (by omega)
  · intro k hk
    rw [frm_len] at hk
    have := pch_rng s 30 k
    refine ⟨?_, ?_, fun h0 => ?_⟩
    · rw [frm_tm hk]; omega
    · rw [frm_pt hk]; omega
    · unfold lessAt
      apply lessB_lt
      rw [frm_tm (show k - 1 < s.size + 1 by omega), frm_tm hk]; omega
theorem ctr_from {s : ByteArray} (h : drC s) : froL s 30 = frm s 30 (s.size + 1) ∧ froQ s 30 = true := by
  have ho : froOk s 30 := ⟨drC_okC h, by omega, ctr_tune h⟩
  exact ⟨froL_yes ho, froQ_yes ho⟩
theorem pch_succ (s : ByteArray) (f : Int) (k : Nat) : pch s f (k + 1) = pch s f k + dltAt s k := rfl
theorem dlt_u : dlt 85 = 1 := by decide
theorem dlt_d : dlt 68 = -1 := by decide
theorem dlt_s : dlt 83 = 0 := by decide
theorem let_up {s : ByteArray} (h : cok s = true) (f : Int) {k : Nat} (hk : k < s.size) : let3 (pch s f (k + 1)) (pch s f k) = s[k] := by
  rw [pch_succ, dltAt_eq hk]
  unfold let3
  rcases isL_or (drC_at h hk) with e | e | e <;> rw [e]
  · rw [dlt_u, if_pos (by omega)]
  · rw [dlt_d, if_neg (by omega), if_pos (by omega)]
  · rw [dlt_s, if_neg (by omega), if_neg (by omega)]
theorem let_dn {s : ByteArray} (h : cok s = true) (f : Int) {k : Nat} (hk : k < s.size) : let3 (pch s f k) (pch s f (k + 1)) = fl s[k] := by
  rw [pch_succ, dltAt_eq hk]
  unfold let3
  rcases isL_or (drC_at h hk) with e | e | e <;> rw [e]
  · rw [dlt_u, if_neg (by omega), if_pos (by omega)]; rfl
  · rw [dlt_d, if_pos (by omega)]; rfl
  · rw [dlt_s, if_neg (by omega), if_neg (by omega)]; rfl
theorem ctr_conZ {s : ByteArray} (h : drC s) : ∀ k, k ≤ s.size → conZ (frm s 30 (s.size + 1)) k = s.data.toList.take k
  | 0, _ => by simp [conZ]
  | k + 1, hk => by
    have hl : k < s.data.toList.length := by rw [drC_len]; omega
    unfold conZ
    rw [ctr_conZ h k (by omega), frm_pt (show k + 1 < s.size + 1 by omega), frm_pt (show k < s.size + 1 by omega), let_up h.1 30 (show k < s.size by omega), ← List.take_append_getElem hl]
    rfl
theorem ctr_con {s : ByteArray} (h : drC s) : conB (frm s 30 (s.size + 1)) = s := by
  rw [conB_yes (ctr_tune h), frm_len, Nat.add_sub_cancel, ctr_conZ h _ (Nat.le_refl _), List.take_of_length_le (by rw [drC_len]; omega), mk_eta]
/-- The tune backward. -/
def revT (s : ByteArray) : List (Int × Int) := (List.range (s.size + 1)).map fun (k : Nat) => ((k : Int), pch s 30 (s.size - k))
theorem revT_len (s : ByteArray) : (revT s).length = s.size + 1 := by simp [revT]
theorem revT_tm {s : ByteArray} {k : Nat} (h : k < s.size + 1) : tm (revT s) k = (k : Int) := by simp [tm, revT, List.getD, h]
theorem revT_pt {s : ByteArray} {k : Nat} (h : k < s.size + 1) : pt (revT s) k = pch s 30 (s.size - k) := by simp [pt, revT, List.getD, h]
theorem bac_mem {l : List (Int × Int)} {x : Int × Int} : ∀ k, x ∈ bacTo l k ↔ ∃ j, j < k ∧ x = (tm l 0 + tm l (l.length - 1) - tm l j, pt l j)
  | 0 => by simp [bacTo]
  | k + 1 => by
    rw [bacTo, List.mem_append, bac_mem k, List.mem_singleton]
    constructor
    · rintro (⟨j, a, b⟩ | b)
      · exact ⟨j, by omega, b⟩
      · exact ⟨k, by omega, b⟩
    · rintro ⟨j, a, b⟩
      by_cases e : j = k
      · subst e; exact Or.inr b
      · exact Or.inl ⟨j, by omega, b⟩
theorem rev_srt {s : ByteArray} : isSrt (bacTo (frm s 30 (s.size + 1)) (s.size + 1)) (revT s) := by
  constructor
  · rw [List.pairwise_iff_getElem]
    intro i j hi hj hij
    rw [revT_len] at hi hj
    rw [ltN_iff]
    left
    simp [revT]; omega
  · intro x
    rw [bac_mem, revT, List.mem_map]
    have hL : (frm s 30 (s.size + 1)).length - 1 = s.size := by rw [frm_len]; rfl
    rw [hL, frm_tm (show 0 < s.size + 1 by omega), frm_tm (show s.size < s.size + 1 by omega)]
    constructor
    · rintro ⟨k, hk, rfl⟩
      rw [List.mem_range] at hk
      refine ⟨s.size - k, by omega, ?_⟩
      rw [frm_tm (show s.size - k < s.size + 1 by omega), frm_pt (show s.size - k < s.size + 1 by omega)]
      simp; omega
    · rintro ⟨j, hj, rfl⟩
      refine ⟨s.size - j, List.mem_range.2 (by omega), ?_⟩
      rw [frm_tm hj, frm_pt hj, show s.size - (s.size - j) = j by omega]
      simp; omega
theorem ctr_back {s : ByteArray} (h : drC s) : bacL (frm s 30 (s.size + 1)) = revT s := by
  have hn := h.2
  unfold bacL
  rw [frm_len, show srt40 (bacTo (frm s 30 (s.size + 1)) (s.size + 1)) = srt (bacTo (frm s 30 (s.size + 1)) (s.size + 1)) from (srt40_yes (by rw [bacTo_len]; omega)).symm]
  exact (srt_srt _).uniq rev_srt
theorem rev_tune {s : ByteArray} (h : drC s) : tuneB (revT s) = true := by
  have hn := h.2
  rw [tuneB_all]
  · rw [revT_len]; exact decide_eq_true (by omega)
  · intro k hk
    rw [revT_len] at hk
    have := pch_rng s 30 (s.size - k)
    refine ⟨?_, ?_, fun h0 => ?_⟩
    · rw [revT_tm hk]; omega
    · rw [revT_pt hk]; omega
    · unfold lessAt
      apply lessB_lt
      rw [revT_tm (show k - 1 < s.size + 1 by omega), revT_tm hk]; omega
theorem rev_conZ {s : ByteArray} (h : drC s) : ∀ k, k ≤ s.size → conZ (revT s) k = (s.data.toList.reverse.map fl).take k
  | 0, _ => by simp [conZ]
  | k + 1, hk => by
    have hl : k < (s.data.toList.reverse.map fl).length := by rw [List.length_map, List.length_reverse, drC_len]; omega
    unfold conZ
    rw [rev_conZ h k (by omega), revT_pt (show k + 1 < s.size + 1 by omega), revT_pt (show k < s.size + 1 by omega)]
    obtain ⟨m, hm⟩ : ∃ m, s.size - k = m + 1 := ⟨s.size - k - 1, by omega⟩
    rw [show s.size - (k + 1) = m by omega, hm, let_dn h.1 30 (show m < s.size by omega), ← List.take_append_getElem hl]
    congr 1
    rw [List.getElem_map, List.getElem_reverse]
    have e1 : s.data.toList.length - 1 - k = m := by rw [drC_len]; omega
    have e2 : ∀ i (hi : i < s.data.toList.length), i = m → s.data.toList[i] = s[m] := fun i hi e => by subst e; rfl
    rw [e2 _ _ e1]
theorem turn_yes {s : ByteArray} (h : okC s = true) : turnZ s = mkS (s.data.toList.reverse.map fl) := by
  unfold turnZ turnFrom; rw [if_pos h, List.drop_zero]
theorem rev_con {s : ByteArray} (h : drC s) : conB (revT s) = turnZ s := by
  rw [conB_yes (rev_tune h), revT_len, Nat.add_sub_cancel, rev_conZ h _ (Nat.le_refl _), List.take_of_length_le (by rw [List.length_map, List.length_reverse, drC_len]; omega), turn_yes (drC_okC h)]
theorem fl_isL (c : UInt8) : isL (fl c) = true := by
  unfold fl
  split
  · rfl
  · split <;> rfl
theorem fl_fl {c : UInt8} (h : isL c = true) : fl (fl c) = c := by
  rcases isL_or h with e | e | e <;> subst e <;> rfl
theorem turn_dr {s : ByteArray} (h : drC s) : drC (turnZ s) := by
  rw [turn_yes (drC_okC h)]
  constructor
  · unfold cok mkS
    rw [List.all_eq_true]
    intro c hc
    simp only [List.mem_map] at hc
    obtain ⟨x, _, rfl⟩ := hc
    exact fl_isL x
  · rw [mkS_size, List.length_map, List.length_reverse, drC_len]; exact h.2
theorem turn_turn {s : ByteArray} (h : drC s) : turnZ (turnZ s) = s := by
  rw [turn_yes (drC_okC (turn_dr h)), turn_yes (drC_okC h)]
  show mkS (((s.data.toList.reverse.map fl).toArray.toList).reverse.map fl) = s
  rw [List.toList_toArray, ← List.map_reverse, List.reverse_reverse, List.map_map]
  rw [show s.data.toList.map (fl ∘ fl) = s.data.toList from by
    conv => rhs; rw [← List.map_id s.data.toList]
    exact List.map_congr_left fun c hc => fl_fl (drC_mem h.1 hc)]
  exact mk_eta s
theorem turn_size {s : ByteArray} (h : drC s) : (turnZ s).size = s.size := by
  rw [turn_yes (drC_okC h), mkS_size, List.length_map, List.length_reverse, drC_len]
/-- Ups less downs. -/
theorem pch_ups (s : ByteArray) (f : Int) : ∀ k, k ≤ s.size → pch s f k = f + upK s.data.toList k
  | 0, _ => by rw [upK_zero]; simp [pch]
  | k + 1, hk => by
    rw [pch_succ, pch_ups s f k (by omega), upK_succ s k (by omega), dltAt_eq (show k < s.size by omega)]
    unfold dlt; omega
theorem ctr_ups {s : ByteArray} (h : drC s) : ups s = pch s 30 s.size - 30 := by
  rw [pch_ups s 30 _ (Nat.le_refl _), ← ups_yes (drC_okC h)]; omega
theorem fl_count : ∀ L : List UInt8, (∀ c ∈ L, isL c = true) → (L.map fl).count 85 = L.count 68 ∧ (L.map fl).count 68 = L.count 85
  | [], _ => ⟨rfl, rfl⟩
  | c :: L, h => by
    obtain ⟨a, b⟩ := fl_count L fun c hc => h c (List.mem_cons_of_mem _ hc)
    rw [List.map_cons, List.count_cons, List.count_cons, List.count_cons, List.count_cons, a, b]
    rcases isL_or (h c (List.mem_cons_self ..)) with e | e | e <;> subst e <;> exact ⟨rfl, rfl⟩
theorem ctr_ups2 {s : ByteArray} (h : drC s) : ups (turnZ s) = - ups s := by
  have h1 := ups_yes (drC_okC h)
  have h2 := ups_yes (drC_okC (turn_dr h))
  rw [← h1, ← h2, turn_size h]
  have e1 : (turnZ s).data.toList = s.data.toList.reverse.map fl := by rw [turn_yes (drC_okC h)]; show ((s.data.toList.reverse.map fl).toArray).toList = _; rw [List.toList_toArray]
  rw [e1]
  unfold upK
  rw [List.take_of_length_le (by rw [List.length_map, List.length_reverse, drC_len]; omega), List.take_of_length_le (by rw [drC_len]; omega), List.map_reverse, List.count_reverse, List.count_reverse]
  obtain ⟨a, b⟩ := fl_count s.data.toList fun c hc => drC_mem h.1 hc
  rw [a, b]; omega
/-- Finding. -/
theorem has_room {c s : ByteArray} (h : hasC c s = true) : s.size ≤ c.size := by
  unfold hasC Lib.contains at h
  have := Lib.index_room c.data.toList s.data.toList (of_decide_eq_true h)
  rw [drC_len, drC_len] at this
  have := of_decide_eq_true h
  omega
theorem has_occ {c s : ByteArray} (h : Lib.occAt c.data.toList s.data.toList 0 = true) : hasC c s = true := by
  unfold hasC Lib.contains
  refine decide_eq_true ?_
  rcases Lib.index_spec c.data.toList s.data.toList with ⟨_, h2⟩ | ⟨i, h1, _⟩
  · rw [h2 0 (Nat.zero_le _)] at h; cases h
  · rw [h1]; omega
theorem has_self (s : ByteArray) : hasC s s = true := has_occ (by unfold Lib.occAt; rw [List.drop_zero, List.isPrefixOf_iff_prefix]; exact List.prefix_refl _)
theorem has_none (c : ByteArray) : hasC c (mkS []) = true := has_occ (by unfold Lib.occAt; rw [List.isPrefixOf_iff_prefix]; exact List.nil_prefix)
theorem fds_mem {ls : List (List (Int × Int))} {f : List (Int × Int) → Bool} {x : Int} : ∀ n, x ∈ fdsTo ls f n → ∃ k : Nat, k < n ∧ x = (k : Int) ∧ f (nt ls k) = true
  | 0, h => by simp [fdsTo] at h
  | n + 1, h => by
    unfold fdsTo at h
    split at h
    · rename_i hf
      rw [List.mem_append, List.mem_singleton] at h
      rcases h with h | h
      · obtain ⟨k, a, b⟩ := fds_mem n h; exact ⟨k, by omega, b⟩
      · exact ⟨n, by omega, h, hf⟩
    · obtain ⟨k, a, b⟩ := fds_mem n h; exact ⟨k, by omega, b⟩
theorem fds_all {ls : List (List (Int × Int))} {f : List (Int × Int) → Bool} (h : ∀ l, f l = true) : ∀ n, (fdsTo ls f n).length = n
  | 0 => rfl
  | n + 1 => by rw [fds_yes (h _), List.length_append, fds_all h n]; rfl
/-- What drawn tunes are. -/
def drTS (ls : List (List (Int × Int))) : Prop := ls.length ≤ 4 ∧ ∀ k, k < ls.length → tuneB (nt ls k) = true ∧ (nt ls k).length ≤ 11
theorem dr_are {ls : List (List (Int × Int))} (h : drTS ls) : areB ls 20 = true := are_yes (by have := h.1; omega) fun k hk => (h.2 k hk).1
theorem gt_memC {l : List Int} {k : Nat} (h : k < l.length) : gt l k ∈ l := by
  unfold gt; rw [List.getD_eq_getElem?_getD, List.getElem?_eq_getElem h]; exact List.getElem_mem h
theorem fnd_at {ls : List (List (Int × Int))} {s : ByteArray} (h : drTS ls) (hs : drC s) {k : Nat} (hk : k < (fndL ls s).length) :
    ∃ j : Nat, j < ls.length ∧ gt (fndL ls s) k = (j : Int) ∧ s.size ≤ (conB (nt ls j)).size := by
  have hm := gt_memC hk
  generalize gt (fndL ls s) k = x at *
  rw [fndL_yes (dr_are h) (drC_cokB hs)] at hm
  obtain ⟨j, a, b, c⟩ := fds_mem _ hm
  exact ⟨j, a, b, has_room c⟩
theorem nil_ok : drC (mkS []) := ⟨rfl, by decide⟩
theorem fnd_nil {ls : List (List (Int × Int))} (h : drTS ls) : (fndL ls (mkS [])).length = ls.length := by
  rw [fndL_yes (dr_are h) (drC_cokB nil_ok)]
  exact fds_all (fun l => has_none _) _
theorem one_dr {t : List (Int × Int)} (h : tuneB t = true) (hl : t.length ≤ 11) : drTS [t] := by
  refine ⟨by simp, fun k hk => ?_⟩
  have : k = 0 := by simp at hk; exact hk
  subst this
  exact ⟨h, hl⟩
theorem fnd_own {s : ByteArray} (h : drC s) : fndL [frm s 30 (s.size + 1)] s = [0] := by
  have hd := one_dr (ctr_tune h) (by rw [frm_len]; have := h.2; omega)
  rw [fndL_yes (dr_are hd) (drC_cokB h)]
  show fdsTo _ _ 1 = [0]
  rw [fds_yes (by show hasC (conB (frm s 30 (s.size + 1))) s = true; rw [ctr_con h]; exact has_self s)]
  rfl
end Go.Proofs.Ytkbceojeahninaa
