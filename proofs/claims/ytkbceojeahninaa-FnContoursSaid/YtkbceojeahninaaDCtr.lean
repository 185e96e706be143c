/- The draws of a contour and of tunes. -/
import Derived.Test.YtkbceojeahninaaCtrP
import Derived.Test.YtkbceojeahninaaNssM
import Derived.Test.YtkbceojeahninaaApp
namespace Go.Proofs.Ytkbceojeahninaa
open Go.ChangeShapes Go.WideShapes Go.ChangeAt Go.RowKit
set_option linter.unusedVariables false
theorem cok_mk (l : List UInt8) : cok (mkS l) = l.all isL := rfl
theorem cok_snoc {t : ByteArray} {u : UInt8} (h : cok t = true) (hu : isL u = true) : cok (t ++ ⟨#[u]⟩) = true := by
  have e : t ++ ⟨#[u]⟩ = mkS (t.data.toList ++ [u]) := by rw [← mkS_snoc, mk_eta]
  rw [e, cok_mk, List.all_append]
  unfold cok at h
  rw [h]
  simp [hu]
theorem size_snoc (t : ByteArray) (u : UInt8) : (t ++ (⟨#[u]⟩ : ByteArray)).size = t.size + 1 := by rw [ByteArray.size_append]; rfl
def PickR (g : Nat) (w : World) (e : Ending) (w' : World) : Prop := ∃ u : UInt8, isL u = true ∧ e = .returned (.string ⟨#[u]⟩) ∧ Cur w' g ∧ w.grownBy w' (some g)
theorem pick3 (g b : Nat) (w : World) (hc : Cur w g) (hne : b ≠ g) (k0 : w.cell? ⟨b, 0, none⟩ = some (.string ⟨#[85]⟩)) (k1 : w.cell? ⟨b, 1, none⟩ = some (.string ⟨#[68]⟩)) (k2 : w.cell? ⟨b, 2, none⟩ = some (.string ⟨#[83]⟩)) :
    Calls Try.prog 96 #[.pointer (some ⟨g, 0, none⟩), .slice (some ⟨b, 0, none⟩) 3 3] w (PickR g w) := by
  go_enter Try.func96, Try.ntmps96
  go_wp2_with fail
  refine (below_any g _ hc 3 (by omega) (by omega)).mono ?_
  rintro e w1 ⟨x, hx0, hx1, rfl, hc1, hg1⟩
  have c0 := hg1.cell k0 (by simpa using hne)
  have c1 := hg1.cell k1 (by simpa using hne)
  have c2 := hg1.cell k2 (by simpa using hne)
  have hx : x = 0 ∨ x = 1 ∨ x = 2 := by omega
  rcases hx with rfl | rfl | rfl
  · go_wp2
    exact bodyPost_ret (v := .string ⟨#[85]⟩) (by simp [results, Try.results96, go_sem]) rfl ⟨85, rfl, rfl, hc1, hg1⟩
  · go_wp2
    exact bodyPost_ret (v := .string ⟨#[68]⟩) (by simp [results, Try.results96, go_sem]) rfl ⟨68, rfl, rfl, hc1, hg1⟩
  · go_wp2
    exact bodyPost_ret (v := .string ⟨#[83]⟩) (by simp [results, Try.results96, go_sem]) rfl ⟨83, rfl, rfl, hc1, hg1⟩
def TextR (g : Nat) (w : World) (e : Ending) (w' : World) : Prop := ∃ s : ByteArray, drC s ∧ e = .returned (.string s) ∧ Cur w' g ∧ w.grownBy w' (some g)
set_option maxHeartbeats 800000 in
theorem text_any (g : Nat) (w : World) (hc : Cur w g) : Calls Try.prog 64 #[.pointer (some ⟨g, 0, none⟩)] w (TextR g w) := by
  have hgw := hc.lt
  go_enter Try.func64, Try.ntmps64
  go_wp2_with fail
  refine (below_any g _ hc 9 (by omega) (by omega)).mono ?_
  rintro e w1 ⟨N, hN0, hN1, rfl, hc1, hg1⟩
  clear hc
  go_wp2
  go_loopw [3, 4] (fun v i wr => ∃ (t : ByteArray) (K : Nat), i = .int .i64 K ∧ v = .string t ∧ t.size + K ≤ 8 ∧ cok t = true ∧ Cur wr g ∧ w.grownBy wr (some g)) (fun _ i _ => (intOf i).toNat)
  case atStart => exact ⟨⟨#[]⟩, N.toNat, by congr 1; omega, rfl, by show 0 + _ ≤ 8; omega, rfl, hc1, hg1⟩
  case round =>
    clear hc1 hg1 hN0 hN1
    obtain ⟨t, K, rfl, rfl, hs, hk, hc, hg⟩ := hrel
    have hts : t.size ≤ 8 := by omega
    by_cases h0 : 0 < K
    · have h0i : (0 : Int) < (K : Int) := by omega
      have hgr : g < wr.heap.size := hc.lt
      have hbz : Below wr.heap.size wr (wr.alloc (.cells #[.string ⟨#[85]⟩, .string ⟨#[68]⟩, .string ⟨#[83]⟩] 9)) := (Below.refl _ _).alloc (Nat.le_refl _) _
      have hcz := hc.belowG hgr hbz
      have hgz : w.grownBy (wr.alloc (.cells #[.string ⟨#[85]⟩, .string ⟨#[68]⟩, .string ⟨#[83]⟩] 9)) (some g) := grown_bel hg (hbz.mono hg.size)
      have hKK := Lib.hid hk
      clear hk
      go_wp2_with fail
      refine (pick3 g wr.heap.size _ hcz (by omega) (by simp [go_sem]) (by simp [go_sem]) (by simp [go_sem])).mono ?_
      rintro e w2 ⟨u, hu, rfl, hc2, hg2⟩
      have hgg := hgz.trans hg2
      have HS := Lib.hid (size_snoc t u)
      have HC := Lib.hid (cok_snoc hKK.out hu)
      clear hcz hgz hbz hg hc hg2
      go_wp2
      go_roundw
      case rel => exact ⟨t ++ ⟨#[u]⟩, K - 1, by go_num, rfl, by rw [HS.out]; omega, HC.out, hc2, hgg⟩
      case measure => simp [intOf]; omega
    · obtain rfl : K = 0 := by omega
      go_wp2
      exact bodyPost_ret (v := .string t) (by simp [results, Try.results64, go_sem]) rfl ⟨t, ⟨hk, hts⟩, rfl, hc, hg⟩
theorem draw_ctr (w : World) (A : Option Addr) (n c : Nat) (hn : n ≤ 1048576) (hr : RdU w A n w.heap.size) : Calls Try.prog 27 #[.slice A n c] w fun e w' => ∃ s : ByteArray, drC s ∧ e = .returned (.string s) ∧ Below w.heap.size w w' := by
  go_enter Try.func27, Try.ntmps27
  go_wp2_with fail
  refine (new_any w A n c hn hr).mono ?_
  rintro e w1 ⟨g, hg, rfl, hc, hb⟩
  go_wp2_with fail
  refine (text_any g w1 hc).mono ?_
  rintro e w2 ⟨s, hs, rfl, hc2, hg2⟩
  go_wp2
  exact bodyPost_ret (v := .string s) (by simp [results, Try.results27, go_sem]) rfl ⟨s, hs, rfl, bel_new hb hg hg2⟩
section
variable {P : Program} {ops : Array Oper} {rest : List Oper} {o : Oper} {a : Act} {Q : Exit → Act → World → Prop} {W : World}
/-- append(l, y) of a slice, with the block. -/
theorem app_slice_b (hgd : o.guard = none) (s x : Operand) (t : TypeId) (ho : o.op = .call { callee := .builtin .append, args := #[s, x], argTypes := #[t, t] })
    (e : TypeId) (ht : P.underlying t = some (.slice e)) (hI : (P.info? e).map (fun i => (i.zero, i.size, i.bytes)) = some (some (.slice none 0 0), 1, 24))
    (B : Nat) (v : Value) (l : List Value) (A : Option Addr) (m c : Nat) (hown : OwnV e B W v l) (hs : a.eval s = v) (hx : a.eval x = .slice (some ⟨W.heap.size, 0, none⟩) 1 1) (hlen : l.length ≤ 1000000000) (hB : B ≤ W.heap.size)
    (h : ∀ v' w', OwnV e B w' v' (l ++ [.slice A m c]) → Below B W w' → W.grownBy w' v.ownBlock → (v'.ownBlock = v.ownBlock ∨ ∃ k, v'.ownBlock = some k ∧ W.heap.size ≤ k) → wpList P ops Q rest (a.put o.dst v') w') : wpList P ops Q (o :: rest) a (W.alloc (.cells #[.slice A m c] e)) := by
  obtain ⟨i, hi, hz, hsz, hby⟩ := info_parts hI
  refine wpList_append_b (P := P) (w := W.alloc (.cells #[.slice A m c] e)) hgd s x t ho B e i (.slice none 0 0) 1 24 ht hi hz hsz hby rfl (by decide) v l.length l hs (hown.below ((Below.refl _ _).alloc (Nat.le_refl _) _) rfl) ⟨W.heap.size, 0, none⟩ 1 1 [.slice A m c] hx (by decide) rfl ?_ ?_ ?_ ?_ ?_ ?_
  · intro j u hj
    match j, hj with
    | 0, hj => simp at hj; subst hj; simp [Addr.add]
  · intro u hu; simp at hu; subst hu; rfl
  · unfold maxLen; omega
  · omega
  · simp; omega
  · intro v' w' h1 h2 h3
    have h4 := grownBy_of_alloc h2
    refine h v' w' ?_ (grown_Below h4 hB (fun k hk => (hown.blk k hk).1)) h4 (h3.imp id fun h3 => ⟨_, h3, by simp⟩)
    unfold OwnV
    simpa using h1
end
theorem FilNS.keptG {e B g : Nat} {w w' : World} {ls : List (List (Int × Int))} {vs : List Value} {k : Nat} (h : FilNS e B w ls vs k) (hg : w.grownBy w' (some g)) (hgB : g < B) : FilNS e B w' ls vs k := by
  intro j hj
  obtain ⟨A', c', h1, h2, h3, h4⟩ := h j hj
  exact ⟨A', c', h1, h2, h3, h4.keptG hg hgB⟩
/-- No row lies in block v. -/
def Aprt (vs : List Value) (v : Value) : Prop := ∀ j q, obk vs j = some q → v.ownBlock ≠ some q
theorem nt_left {ls : List (List (Int × Int))} {l : List (Int × Int)} {j : Nat} (h : j < ls.length) : nt (ls ++ [l]) j = nt ls j := by
  unfold nt; rw [List.getD_eq_getElem?_getD, List.getD_eq_getElem?_getD, List.getElem?_append_left h]
theorem nt_last (ls : List (List (Int × Int))) (l : List (Int × Int)) : nt (ls ++ [l]) ls.length = l := by
  unfold nt; rw [List.getD_eq_getElem?_getD, List.getElem?_append_right (Nat.le_refl _)]; simp
theorem obk_none {vs : List Value} {j : Nat} (h : vs.length ≤ j) : obk vs j = none := by unfold obk; rw [List.getElem?_eq_none h]
theorem fil_app {e B : Nat} {w w' : World} {ls : List (List (Int × Int))} {vs : List Value} {l : List (Int × Int)} {A : Option Addr} {c : Nat} {v : Value} (h : FilNS e B w ls vs ls.length) (hl : vs.length = ls.length)
    (hg : w.grownBy w' v.ownBlock) (hap : Aprt vs v) (h2 : l.length ≤ c) (h3 : c ≤ maxLen) (ho : OwnN e B w (.slice A l.length c) l) (hne : (Value.slice A l.length c).ownBlock = none ∨ (Value.slice A l.length c).ownBlock ≠ v.ownBlock) :
    FilNS e B w' (ls ++ [l]) (vs ++ [.slice A l.length c]) (ls ++ [l]).length := by
  intro j hj
  rw [List.length_append] at hj
  change j < ls.length + 1 at hj
  by_cases e : j = ls.length
  · subst e
    rw [nt_last]
    exact ⟨A, c, by rw [← hl, List.getElem?_append_right (Nat.le_refl _)]; simp, h2, h3, ho.keep hg hne⟩
  · have hj2 : j < ls.length := by omega
    obtain ⟨A', c', q1, q2, q3, q4⟩ := h j hj2
    rw [nt_left hj2]
    refine ⟨A', c', by rw [List.getElem?_append_left (by omega)]; exact q1, q2, q3, q4.keep hg ?_⟩
    cases hq : (Value.slice A' (nt ls j).length c').ownBlock with
    | none => exact Or.inl rfl
    | some q => exact Or.inr fun e2 => hap j q (by rw [obk_at q1, hq]) e2.symm
theorem aprt_app {e B : Nat} {w : World} {ls : List (List (Int × Int))} {vs : List Value} {x v v' : Value} (h : FilNS e B w ls vs ls.length) (hl : vs.length = ls.length) (hap : Aprt vs v) (hx : ∀ q, x.ownBlock = some q → q < w.heap.size ∧ v.ownBlock ≠ some q)
    (hv : v'.ownBlock = v.ownBlock ∨ ∃ k, v'.ownBlock = some k ∧ w.heap.size ≤ k) : Aprt (vs ++ [x]) v' := by
  intro j q hq
  have key : q < w.heap.size ∧ v.ownBlock ≠ some q := by
    by_cases e : j < vs.length
    · have hq2 : obk vs j = some q := by unfold obk at hq ⊢; rwa [List.getElem?_append_left e] at hq
      exact ⟨(h.obk_lt (by omega) hq2).2, hap j q hq2⟩
    · by_cases e2 : j = vs.length
      · subst e2
        have : obk (vs ++ [x]) vs.length = x.ownBlock := obk_at (by rw [List.getElem?_append_right (Nat.le_refl _)]; simp)
        rw [this] at hq
        exact hx q hq
      · rw [obk_none (by rw [List.length_append]; change vs.length + 1 ≤ j; omega)] at hq; cases hq
  rcases hv with hv | ⟨k, hv, hk⟩
  · rw [hv]; exact key.2
  · rw [hv]; intro e2; injection e2 with e2; omega
/-- What a row of rows reads as. -/
theorem rdns_any {eS e B B2 : Nat} {w : World} {A : Option Addr} {n c : Nat} {ls : List (List (Int × Int))} {vs : List Value} (hn : n = ls.length) (hl : vs.length = ls.length) (ho : OwnV eS B w (.slice A n c) vs) (hF : FilNS e B2 w ls vs ls.length) : RdNS w A ls := by
  intro h0
  rcases ho.2 with ⟨h', hn0⟩ | ⟨g', cap, cur, h', _⟩
  · omega
  · have h'' := h'
    injection h' with h1 h2 h3
    subst h1
    obtain ⟨hBg, hgl, hcg, _⟩ := OwnV.head ho
    refine ⟨g', 0, rfl, hgl, fun j hj => ?_⟩
    obtain ⟨A', c', q1, q2, q3, q4⟩ := hF j hj
    refine ⟨A', c', ?_, q2, q3, q4.rdA⟩
    rw [Nat.zero_add]
    rcases hcg j with h | h
    · rw [h]; exact q1
    · rw [hl] at h; omega
theorem OwnV.capV {e B n c : Nat} {w : World} {A : Option Addr} {l : List Value} (h : OwnV e B w (.slice A n c) l) : n = l.length ∧ l.length ≤ c ∧ c ≤ maxLen := by
  rcases h.2 with ⟨h1, h2⟩ | ⟨g, cap, cur, h1, hg, hh, hnc, hm, _⟩
  · injection h1 with h3 h4 h5
    exact ⟨by omega, by omega, by rw [h5]; simp [maxLen]⟩
  · injection h1 with h3 h4 h5
    subst h5
    exact ⟨h4, hnc, hm⟩
theorem OwnV.lit0 (w : World) (e : TypeId) : OwnV e w.heap.size (w.alloc (.cells #[] e)) (.slice (some ⟨w.heap.size, 0, none⟩) 0 0) [] := World.ownsRow_made w #[] 0 (Nat.le_refl _) (by simp [maxLen]) rfl
theorem own_cap2 {e B n c : Nat} {w : World} {A : Option Addr} {l : List (Int × Int)} (h : OwnN e B w (.slice A n c) l) : l.length ≤ c ∧ c ≤ maxLen := by
  rcases h.2 with ⟨h1, h2⟩ | ⟨g, cap, cur, h1, hg, hh, hnc, hm, _⟩
  · injection h1 with h3 h4 h5
    refine ⟨by omega, by rw [h5]; simp [maxLen]⟩
  · injection h1 with h3 h4 h5
    subst h5
    exact ⟨hnc, hm⟩
theorem drTS_snoc {ls : List (List (Int × Int))} {l : List (Int × Int)} (h : ∀ k, k < ls.length → tuneB (nt ls k) = true ∧ (nt ls k).length ≤ 11) (hl : drT l) : ∀ k, k < (ls ++ [l]).length → tuneB (nt (ls ++ [l]) k) = true ∧ (nt (ls ++ [l]) k).length ≤ 11 := by
  intro k hk
  rw [List.length_append] at hk
  change k < ls.length + 1 at hk
  by_cases e : k = ls.length
  · subst e; rw [nt_last]; exact ⟨hl.1, hl.2.1⟩
  · rw [nt_left (by omega)]; exact h k (by omega)
theorem slice_own {e B : Nat} {w : World} {vs : List Value} {v : Value} (h : OwnV e B w v vs) : ∃ A c, v = .slice A vs.length c := by
  rcases h.2 with ⟨h1, h2⟩ | ⟨g, cap, cur, h1, _⟩
  · exact ⟨none, 0, by rw [h1, h2]⟩
  · exact ⟨_, _, h1⟩
def TunesR (g : Nat) (w : World) (e : Ending) (w' : World) : Prop :=
  ∃ (ls : List (List (Int × Int))) (A : Option Addr) (c : Nat), drTS ls ∧ e = .returned (.slice A ls.length c) ∧ ls.length ≤ c ∧ c ≤ maxLen ∧ RdNS w' A ls ∧ Cur w' g ∧ w.grownBy w' (some g)
attribute [local irreducible] nt tuneB in
set_option maxHeartbeats 1600000 in
theorem tunes_any (g : Nat) (w : World) (hc : Cur w g) : Calls Try.prog 67 #[.pointer (some ⟨g, 0, none⟩)] w (TunesR g w) := by
  have hgw := hc.lt
  have hz := OwnV.lit0 w 32
  have hbz : Below w.heap.size w (w.alloc (.cells #[] 32)) := (Below.refl _ _).alloc (Nat.le_refl _) _
  have hcz := hc.belowG hgw hbz
  have hgz : w.grownBy (w.alloc (.cells #[] 32)) (some g) := grown_bel (World.grownBy.refl _ _) hbz
  go_enter Try.func67, Try.ntmps67
  go_upto_region 2 with (fail)
  generalize hW : w.alloc _ = W at *
  clear hW
  go_wp2_with fail
  refine (below_any g _ hcz 5 (by omega) (by omega)).mono ?_
  rintro e w1 ⟨N, hN0, hN1, rfl, hc1, hg1⟩
  have ho1 := hz.keep hg1 (Or.inr (by intro e; have := (hz.blk g e).1; omega))
  have hgg1 := hgz.trans hg1
  clear hz hcz hgz hbz hc hg1
  go_wp2
  go_loopw [3, 5] (fun v i wr => ∃ (ls : List (List (Int × Int))) (vs : List Value), (ls.length : Int) ≤ N ∧ i = .int .i64 ls.length ∧ vs.length = ls.length ∧ OwnV 32 w.heap.size wr v vs ∧ FilNS 37 w.heap.size wr ls vs ls.length ∧ Aprt vs v ∧ (∀ k, k < ls.length → tuneB (nt ls k) = true ∧ (nt ls k).length ≤ 11) ∧ Cur wr g ∧ w.grownBy wr (some g)) (fun _ i _ => 5 - (intOf i).toNat)
  case atStart => exact ⟨[], [], by simpa using hN0, rfl, rfl, ho1, (fun j h => by simp at h), (fun j q h => by simp [obk] at h), (fun k h => by simp at h), hc1, hgg1⟩
  case round =>
    clear ho1 hc1 hgg1
    obtain ⟨ls, vs, hK, rfl, hvl, ho, hF, hap, hD, hc, hg⟩ := hrel
    have HVL := Lib.hid hvl
    have HD := Lib.hid hD
    have HF := Lib.hid hF
    have HAP := Lib.hid hap
    obtain ⟨K, hKK⟩ : ∃ K, K = ls.length := ⟨_, rfl⟩
    rw [← hKK] at hK ⊢
    have HKK := Lib.hid hKK
    clear hvl hD hF hap hKK
    by_cases hlt : (K : Int) < N
    · go_wp2_with fail
      refine (tune_any g _ hc).mono ?_
      rintro e w2 ⟨l, A2, c2, hT, rfl, ho2, hrd2, hc2, hg2⟩
      have HT := Lib.hid hT
      have hF2 := HF.out.keptG hg2 hgw
      have hov := ho.keep hg2 (Or.inr (by intro e; have := (ho.blk g e).1; omega))
      have hgg := hg.trans hg2
      have hsz := hgg.size
      have hcap := own_cap2 ho2
      have ho2b := ho2.base_le hg.size
      have hxb : ∀ q, (Value.slice A2 l.length c2).ownBlock = some q → wr.heap.size ≤ q ∧ q < w2.heap.size := fun q hq => ho2.blk q hq
      have HXB := Lib.hid hxb
      have hvlen : vs.length ≤ 1000000000 := by rw [HVL.out, ← HKK.out]; omega
      have HF2 := Lib.hid hF2
      have HOLD := Lib.hid (fun q hq => (ho.blk q hq).2)
      clear hT hF2 ho ho2 hrd2 hc hg hg2 hxb
      go_wp2_with (at_builtin; refine app_slice_b rfl _ _ 51 rfl 32 Try.underlying51 (by kernel_rfl) w.heap.size _ vs A2 l.length c2 hov rfl rfl hvlen hsz ?_; intro v' w4 hown4 hb4 hg4 hvb4)
      have HH4 := Lib.hid hg4
      have HV4 := Lib.hid hvb4
      clear hg4 hvb4 hov
      refine ⟨⟨ls ++ [l], vs ++ [.slice A2 l.length c2], ?_, ?_, ?_, hown4, ?_, ?_, drTS_snoc HD.out HT.out, hc2.belowG hgw hb4, grown_bel hgg hb4⟩, ?_⟩
      · rw [List.length_append, ← HKK.out]; show ((K + 1 : Nat) : Int) ≤ N; omega
      · rw [List.length_append, ← HKK.out]; show _ = Value.int .i64 ((K + 1 : Nat) : Int); rfl
      · rw [List.length_append, List.length_append, HVL.out]; rfl
      · refine fil_app HF2.out HVL.out HH4.out HAP.out hcap.1 hcap.2 ho2b ?_
        cases hq : (Value.slice A2 l.length c2).ownBlock with
        | none => exact Or.inl rfl
        | some q => exact Or.inr fun e => by have h1 := (HXB.out q hq).1; have h2 := HOLD.out q e.symm; omega
      · exact aprt_app HF2.out HVL.out HAP.out (fun q hq => ⟨(HXB.out q hq).2, fun e => by have h1 := (HXB.out q hq).1; have h2 := HOLD.out q e; omega⟩) HV4.out
      · simp [intOf]; omega
    · have hlt' : N ≤ (K : Int) := by omega
      obtain ⟨A, c, rfl⟩ := slice_own ho
      have hK4 : K ≤ 4 := by omega
      have HO := Lib.hid ho
      clear ho
      go_wp2
      refine bodyPost_ret (v := .slice A vs.length c) (by simp [results, Try.results67, go_sem]) rfl ⟨ls, A, c, ⟨by rw [← HKK.out]; exact hK4, HD.out⟩, by rw [HVL.out], ?_, ?_, rdns_any HVL.out HVL.out HO.out HF.out, hc, hg⟩
      · rw [← HVL.out]; exact (OwnV.capV (A := A) (n := vs.length) (c := c) (l := vs) HO.out).2.1
      · exact (OwnV.capV (A := A) (n := vs.length) (c := c) (l := vs) HO.out).2.2
theorem draw_tunes (w : World) (A : Option Addr) (n c : Nat) (hn : n ≤ 1048576) (hr : RdU w A n w.heap.size) : Calls Try.prog 34 #[.slice A n c] w fun e w' =>
    ∃ (ls : List (List (Int × Int))) (A : Option Addr) (c : Nat), drTS ls ∧ e = .returned (.slice A ls.length c) ∧ ls.length ≤ c ∧ c ≤ maxLen ∧ RdNS w' A ls ∧ Below w.heap.size w w' := by
  go_enter Try.func34, Try.ntmps34
  go_wp2_with fail
  refine (new_any w A n c hn hr).mono ?_
  rintro e w1 ⟨g, hg, rfl, hc, hb⟩
  go_wp2_with fail
  refine (tunes_any g w1 hc).mono ?_
  rintro e w2 ⟨ls, A2, c2, hT, rfl, h1, h2, h3, hc2, hg2⟩
  go_wp2
  exact bodyPost_ret (v := .slice A2 ls.length c2) (by simp [results, Try.results34, go_sem]) rfl ⟨ls, A2, c2, hT, rfl, h1, h2, h3, bel_new hb hg hg2⟩
end Go.Proofs.Ytkbceojeahninaa
