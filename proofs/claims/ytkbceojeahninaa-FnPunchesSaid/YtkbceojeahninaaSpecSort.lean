/- spec.SortNotes: the notes in order, each once (none of more than 40). -/
import Derived.Test.YtkbceojeahninaaSrt
import Derived.Test.YtkbceojeahninaaSortB
import Derived.Test.YtkbceojeahninaaApp
import Derived.Test.YtkbceojeahninaaPart
import Derived.Deep.Cut
namespace Go.Proofs.Ytkbceojeahninaa
open Go.ChangeShapes Go.WideShapes Go.ChangeAt Go.RowKit
set_option linter.unusedVariables false
def srt40 (l : List (Int × Int)) : List (Int × Int) := if l.length ≤ 40 then srt l else []
theorem srt40_len (l : List (Int × Int)) : (srt40 l).length ≤ 40 := by
  unfold srt40
  split
  · unfold srt; have := srtTo_len l l.length; omega
  · simp
theorem srt40_yes {l : List (Int × Int)} (h : (l.length : Int) ≤ 40) : srtTo l l.length = srt40 l := by unfold srt40; rw [if_pos (by omega)]; rfl
theorem srt40_no {l : List (Int × Int)} (h : ¬ (l.length : Int) ≤ 40) : srt40 l = [] := by unfold srt40; rw [if_neg (by omega)]
theorem srtTo_succ (l : List (Int × Int)) (k : Nat) : srtTo l (k + 1) = insN (tm l k, pt l k) (srtTo l k) := rfl
theorem ltN_at (S : List (Int × Int)) (a : Nat) (x y : Int) : ltN (S.getD a (0, 0)) (x, y) = lessB (tm S a) (pt S a) x y := rfl
section
variable {P : Program} {ops : Array Oper} {o : Oper} {a : Act} {Q : Exit → Act → World → Prop} {W : World}
/-- append(l, m..) in a region that draws its order; l is not nil. -/
theorem step_app_pairs {K : Act → World → Prop} {E : Prop} (hgd : o.guard = none) (s x : Operand) (t : TypeId) (ho : o.op = .call { callee := .builtin .append, args := #[s, x], argTypes := #[t, t] })
    (e : TypeId) (ht : P.underlying t = some (.slice e)) (hI : (P.info? e).map (fun i => (i.zero, i.size, i.bytes)) = some (some (.agg #[.int .i64 0, .int .i64 0]), 2, 16))
    (B g0 c0 n0 n1 : Nat) (l m : List (Int × Int)) (A : Option Addr) (c : Nat) (hs : a.eval s = .slice (some ⟨g0, 0, none⟩) n0 c0) (hx : a.eval x = .slice A n1 c) (hn0 : l.length = n0) (hn1 : m.length = n1) (hA : A.isSome = true) (hown : OwnN e B W (.slice (some ⟨g0, 0, none⟩) n0 c0) l) (hrd : RdN W A m) (hlen : l.length + m.length ≤ 1000000000) (hB : B ≤ W.heap.size)
    (h : ∀ g' c' w', OwnN e B w' (.slice (some ⟨g', 0, none⟩) (l ++ m).length c') (l ++ m) → Below B W w' → W.grownBy w' (some g0) → K (a.put o.dst (.slice (some ⟨g', 0, none⟩) (l ++ m).length c')) w') :
    if Region.wanted o (yielded ops a.tmps) = true then Oper.wp P o a W K Q else E := by
  obtain ⟨i, hi, hz, hsz, hby⟩ := info_parts hI
  obtain ⟨p, rfl⟩ := Option.isSome_iff_exists.1 hA
  subst hn0 hn1
  have hw : Region.wanted o (yielded ops a.tmps) = true := by simp [Region.wanted, hgd]
  rw [if_pos hw]
  by_cases hm0 : m = []
  · subst hm0
    have hroom : l.length + 0 ≤ c0 := by
      obtain ⟨A', c', he, h3, h4, _⟩ := hown.rd
      injection he with _ _ he
      subst he
      omega
    have hr := run_append_room_cells (P := P) (w := W) t o.type e i ht hi g0 0 l.length c0 p 0 c [] (by simp) (by simp) (by simp) hroom (by simp) (by simp)
    rw [List.length_nil] at hx
    unfold Oper.wp execOp
    simp only [ho, resolve, invoke, builtin, Sem.run_bind, Sem.run_pure, Result.andThen_ok, List.map_toArray, List.map_cons, List.map_nil, hs, hx, hr]
    have h9 := h g0 c0 W (by simpa using hown) (Below.refl _ _) (World.grownBy.refl _ _)
    rw [List.append_nil] at h9
    exact h9
  · have hpos : 0 < m.length := by cases m with | nil => exact absurd rfl hm0 | cons x m => simp
    have hcells : ∀ j u, (pairs m)[j]? = some u → W.cell? (p.add j) = some u := by
      intro j u hj
      have hjl : j < m.length * 2 := by
        rcases Nat.lt_or_ge j (m.length * 2) with h | h
        · exact h
        · rw [List.getElem?_eq_none (by rw [pairs_length]; exact h)] at hj; cases hj
      obtain ⟨b, off, he, _, hc⟩ := hrd (by omega)
      cases he
      have hadd : (⟨b, off, none⟩ : Addr).add j = ⟨b, off + j, none⟩ := by
        unfold Addr.add
        split
        · rename_i h0; subst h0; rfl
        · rfl
      rw [hadd]
      have hk := pairs_get m (j / 2) (by omega)
      have hck := hc (j / 2) (by omega)
      rcases Nat.mod_two_eq_zero_or_one j with h0 | h0
      · have : j / 2 * 2 = j := by omega
        rw [this] at hk hck
        rw [hk.1] at hj
        cases hj
        exact hck.1
      · have : j / 2 * 2 + 1 = j := by omega
        rw [Nat.add_assoc, this] at hck
        rw [this] at hk
        rw [hk.2] at hj
        cases hj
        exact hck.2
    obtain ⟨v', w', hr, h2, h3, h4⟩ := run_append_own (P := P) W B t o.type e i (.agg #[.int .i64 0, .int .i64 0]) 2 16 ht hi hz hsz hby rfl (by decide) _ l.length (pairs l) hown p m.length c (pairs m) (by rw [pairs_length]) hcells (pairs_one m) (by unfold maxLen; omega) (by omega) hB
    have hb := grown_below' hown h3 hB
    have hown' : OwnN e B w' v' (l ++ m) := by
      unfold OwnN
      rw [pairs_app, List.length_append]
      exact h2
    unfold Oper.wp execOp
    simp only [ho, resolve, invoke, builtin, Sem.run_bind, Sem.run_pure, Result.andThen_ok, List.map_toArray, List.map_cons, List.map_nil, hs, hx, hr]
    rcases hown'.2 with ⟨_, hn⟩ | ⟨g', cap, cur, rfl, _⟩
    · rw [List.length_append] at hn; omega
    · exact h g' cap w' hown' hb h3
end
theorem sz_a {W0 w1 : World} {B : Nat} {o : Obj} (h : Below B (W0.alloc o).drew w1) : W0.heap.size ≤ w1.heap.size :=
  Nat.le_trans (((Below.refl W0.heap.size W0).alloc (Nat.le_refl _) o).drew).size h.size
theorem sz_b {W0 w1 : World} {B n : Nat} {o : Obj} (h0 : n ≤ W0.heap.size) (h : Below B (W0.alloc o) w1) : n ≤ w1.heap.size :=
  Nat.le_trans (Nat.le_trans h0 (((Below.refl W0.heap.size W0).alloc (Nat.le_refl _) o)).size) h.size
theorem sz_c {W0 : World} {n : Nat} {o : Obj} (h0 : n ≤ W0.heap.size) : n ≤ (W0.alloc o).heap.size :=
  Nat.le_trans h0 (((Below.refl W0.heap.size W0).alloc (Nat.le_refl _) o)).size
theorem len_3 {S : List (Int × Int)} {x : Int × Int} (h : S.length ≤ 40) {n : Nat} (hn : n ≤ 40) : ([] ++ S ++ [x]).length + n ≤ 1000000000 := by simp; omega
theorem some_if {p : Prop} [Decidable p] {x y : Addr} : (if p then some x else some y).isSome = true := by split <;> rfl
theorem heldB_bel {w v : World} {b o : Nat} {u1 u2 : Value} (h : v.cell? ⟨b, o, none⟩ = some u1 ∧ v.cell? ⟨b, o + 1, none⟩ = some u2 ∧ Below w.heap.size w v) : Below w.heap.size w v := h.2.2
theorem rd_kept {V w' : World} {gb g0 : Nat} {x y : Int} (h : RdN V (some ⟨gb, 0, none⟩) [(x, y)]) (hg : V.grownBy w' (some g0)) (hne : gb ≠ g0) : RdN w' (some ⟨gb, 0, none⟩) [(x, y)] := by
  intro _
  obtain ⟨b, off, he, hlt, hc⟩ := h (by simp)
  injection he with he
  injection he with h1 h2
  subst h1 h2
  refine ⟨gb, 0, rfl, Nat.lt_of_lt_of_le hlt hg.size, fun j hj => ⟨hg.cell (hc j hj).1 (by simpa using hne), hg.cell (hc j hj).2 (by simpa using hne)⟩⟩
theorem rd_alloc {V : World} {A : Option Addr} {l : List (Int × Int)} (h : RdN V A l) (o : Obj) : RdN (V.alloc o) A l := h.below ((Below.refl _ _).alloc (Nat.le_refl _) o) rfl
theorem rd_drew {V : World} {A : Option Addr} {l : List (Int × Int)} (h : RdN V A l) : RdN V.drew A l := h
theorem own_drew {V : World} {e B : Nat} {v : Value} {l : List (Int × Int)} (h : OwnN e B V v l) : OwnN e B V.drew v l := h
theorem ne_up (V : World) (o : Obj) : (V.alloc o).heap.size ≠ V.heap.size := by simp
theorem ne_upd (V : World) (o : Obj) : (V.alloc o).drew.heap.size ≠ V.heap.size := ne_up V o
theorem ne_dn (V : World) (o : Obj) : V.heap.size ≠ (V.alloc o).heap.size := fun h => ne_up V o h.symm
theorem ne_dnd (V : World) (o : Obj) : V.heap.size ≠ (V.alloc o).drew.heap.size := ne_dn V o
theorem rd_nil (V : World) (A : Option Addr) : RdN V A [] := fun h => by simp at h
theorem rd_one (V : World) (e : TypeId) (x y : Int) : RdN (V.alloc (.cells #[.int .i64 x, .int .i64 y] e)) (some ⟨V.heap.size, 0, none⟩) [(x, y)] := by
  intro _
  refine ⟨V.heap.size, 0, rfl, by simp, fun j hj => ?_⟩
  obtain rfl : j = 0 := by simp at hj; omega
  constructor <;> simp [go_sem, tm, pt]
theorem sz1 (V : World) (o : Obj) : (V.alloc o).heap.size = V.heap.size + 1 := by simp
theorem rd_one1 (V : World) (o : Obj) (e : TypeId) (x y : Int) : RdN ((V.alloc o).alloc (.cells #[.int .i64 x, .int .i64 y] e)) (some ⟨V.heap.size + 1, 0, none⟩) [(x, y)] := by
  have h := rd_one (V.alloc o) e x y
  rwa [sz1 V o] at h
theorem own_one1 (V : World) (o : Obj) (e : TypeId) : OwnN e V.heap.size ((V.alloc o).alloc (.cells #[] e)) (.slice (some ⟨V.heap.size + 1, 0, none⟩) 0 0) [] := by
  have h := (OwnN.lit0 (V.alloc o) e).base_le (sz_c (o := o) (Nat.le_refl V.heap.size))
  rwa [sz1 V o] at h
theorem own_cap {V : World} {e B n c : Nat} {A : Option Addr} {l : List (Int × Int)} (h : OwnN e B V (.slice A n c) l) : l.length ≤ c := by
  obtain ⟨A', c', he, h3, h4, _⟩ := h.rd
  injection he with _ _ he
  subst he
  exact h3
theorem rd_take {V : World} {A : Option Addr} {l : List (Int × Int)} (a : Nat) (h : RdN V A l) : RdN V A (l.take a) := by
  intro hp
  have hp' : 0 < a ∧ 0 < l.length := by simp at hp; omega
  obtain ⟨b, off, he, hlt, hc⟩ := h hp'.2
  refine ⟨b, off, he, hlt, fun j hj => ?_⟩
  have hj' : j < a ∧ j < l.length := by simp at hj; omega
  have := hc j hj'.2
  simpa [tm, pt, List.getD, hj'.1] using this
theorem rd_drop {V : World} {go : Nat} {l : List (Int × Int)} (a : Nat) (h : RdN V (some ⟨go, 0, none⟩) l) : RdN V (some ⟨go, a * 2, none⟩) (l.drop a) := by
  intro hp
  have hp' : a < l.length := by simp at hp; omega
  obtain ⟨b, off, he, hlt, hc⟩ := h (by omega)
  injection he with he
  injection he with h1 h2
  subst h1 h2
  refine ⟨go, a * 2, rfl, hlt, fun j hj => ?_⟩
  have hj' : a + j < l.length := by simp at hj; omega
  have := hc (a + j) hj'
  rw [show 0 + (a + j) * 2 = a * 2 + j * 2 by omega] at this
  simpa [tm, pt, List.getD] using this
theorem ins_here {l S T R : List (Int × Int)} {k a : Nat} {x : Int × Int} (hN : srtTo l (k + 1) = insN x S) (ha : a ≤ S.length) (hlo : ∀ j, j < a → ltN (S.getD j (0, 0)) x = true) (hn : ltN (S.getD a (0, 0)) x = false) (hne : S.getD a (0, 0) ≠ x) (hT : T = S.take a) (hR : R = S.drop a) :
    srtTo l (k + 1) = [] ++ T ++ [x] ++ R := by
  rw [hN, insN_at S a ha hlo (Or.inr hn), if_pos (Or.inr hne), hT, hR]; simp
theorem ins_not {l S : List (Int × Int)} {k a : Nat} {x : Int × Int} (hN : srtTo l (k + 1) = insN x S) (ha : a < S.length) (hlo : ∀ j, j < a → ltN (S.getD j (0, 0)) x = true) (hn : ltN (S.getD a (0, 0)) x = false) (he : S.getD a (0, 0) = x) :
    srtTo l (k + 1) = S := by
  rw [hN, insN_at S a (by omega) hlo (Or.inr hn), if_neg (fun h => h.elim (fun h => by omega) (fun h => h he))]
theorem getD_ne1 {S : List (Int × Int)} {a : Nat} {x y : Int} (h : ¬ tm S a = x) : S.getD a (0, 0) ≠ (x, y) := fun e => h (by unfold tm; rw [e])
theorem getD_ne2 {S : List (Int × Int)} {a : Nat} {x y : Int} (h : ¬ pt S a = y) : S.getD a (0, 0) ≠ (x, y) := fun e => h (by unfold pt; rw [e])
theorem getD_both {S : List (Int × Int)} {a : Nat} {x y : Int} (h1 : tm S a = x) (h2 : pt S a = y) : S.getD a (0, 0) = (x, y) := by rw [← h1, ← h2]; rfl
theorem heldB_keep {w v u : World} {b o : Nat} {u1 u2 : Value} (l1 : b < w.heap.size)
    (h : v.cell? ⟨b, o, none⟩ = some u1 ∧ v.cell? ⟨b, o + 1, none⟩ = some u2 ∧ Below w.heap.size w v) (hb : Below v.heap.size v u) :
    u.cell? ⟨b, o, none⟩ = some u1 ∧ u.cell? ⟨b, o + 1, none⟩ = some u2 ∧ Below w.heap.size w u := by
  obtain ⟨h1, h2, h5⟩ := h
  have hs := h5.size
  exact ⟨(hb.cell (p := ⟨b, o, none⟩) (Nat.lt_of_lt_of_le l1 hs)).trans h1, (hb.cell (p := ⟨b, o + 1, none⟩) (Nat.lt_of_lt_of_le l1 hs)).trans h2, h5.trans (hb.mono hs)⟩
theorem heldC_keep {w v u : World} {b o : Nat} {u1 u2 : Value} (l1 : b < w.heap.size)
    (h : v.cell? ⟨b, o, none⟩ = some u1 ∧ v.cell? ⟨b, o + 1, none⟩ = some u2 ∧ Below w.heap.size w v) (hb : Below w.heap.size v u) :
    u.cell? ⟨b, o, none⟩ = some u1 ∧ u.cell? ⟨b, o + 1, none⟩ = some u2 ∧ Below w.heap.size w u := by
  obtain ⟨h1, h2, h5⟩ := h
  exact ⟨(hb.cell (p := ⟨b, o, none⟩) l1).trans h1, (hb.cell (p := ⟨b, o + 1, none⟩) l1).trans h2, h5.trans hb⟩
attribute [local irreducible] tm pt srtTo lessB in
set_option maxHeartbeats 1600000 in
theorem spec_SortNotes (A : Option Addr) (c : Nat) (l : List (Int × Int)) (w : World) (hrd : RdN w A l) (hl : l.length ≤ 1000000) :
    Calls Try.prog 65 #[.slice A l.length c] w (RetN 37 w.heap.size (srt40 l) w) := by
  have hz := OwnN.lit0 w 37
  have hbz : Below w.heap.size w (w.alloc (.cells #[] 37)) := (Below.refl _ _).alloc (Nat.le_refl _) _
  by_cases h40 : (l.length : Int) ≤ 40
  · have HR := Lib.hid (srt40_yes h40)
    have HZ := Lib.hid (show srtTo l 0 = [] by unfold srtTo; rfl)
    go_enter Try.func65, Try.ntmps65
    go_wp2
    go_loopw [3, 4] (fun v i wr => ∃ (k go co : Nat), k ≤ l.length ∧ v = .slice (some ⟨go, 0, none⟩) (srtTo l k).length co ∧ i = .int .i64 k ∧ OwnN 37 w.heap.size wr (.slice (some ⟨go, 0, none⟩) (srtTo l k).length co) (srtTo l k) ∧ Below w.heap.size w wr) (fun _ i _ => l.length - (intOf i).toNat)
    case atStart => exact ⟨0, w.heap.size, 0, by omega, by rw [HZ.out]; rfl, rfl, by rw [HZ.out]; exact hz, hbz⟩
    case round =>
      obtain ⟨k, go, co, hk, rfl, rfl, ho, hb⟩ := hrel
      by_cases hlt : k < l.length
      · have hSl := srtTo_len l k
        have HN := Lib.hid (srtTo_succ l k)
        obtain ⟨S, hS⟩ : ∃ S, S = srtTo l k := ⟨_, rfl⟩
        rw [← hS] at ho hSl ⊢
        have HN2 := Lib.hid (show srtTo l (k + 1) = insN (tm l k, pt l k) S by rw [hS]; exact HN.out)
        have HS := Lib.hid hS
        clear hS HN hz hbz
        obtain ⟨b, o, rfl, lb, hc⟩ := hrd (by omega)
        have k1 := (hb.cell (p := ⟨b, o + k * 2, none⟩) lb).trans (hc k hlt).1
        have k2 := (hb.cell (p := ⟨b, o + k * 2 + 1, none⟩) lb).trans (hc k hlt).2
        have mb : b < wr.heap.size := Nat.lt_of_lt_of_le lb hb.size
        have h0a : (0 : Int) ≤ (k : Int) := by omega
        have h0b : (k : Int) < (l.length : Int) := by omega
        clear hc
        obtain ⟨wo, hwo⟩ : ∃ wo, wo = wr := ⟨wr, rfl⟩
        subst hwo
        go_wp2
        go_loopw [5] (fun i wt => ∃ a : Nat, a ≤ S.length ∧ i = .int .i64 a ∧ (∀ j, j < a → ltN (S.getD j (0, 0)) (tm l k, pt l k) = true) ∧ Below wo.heap.size wo wt) (fun i _ => S.length - (intOf i).toNat)
        case atStart => exact ⟨0, by omega, rfl, fun _ h => by omega, Below.refl _ _⟩
        case round =>
          obtain ⟨a, ha, rfl, hlo, hbt⟩ := hrel
          have HLO := Lib.hid hlo
          clear hlo
          have k1' := (hbt.cell (p := ⟨b, o + k * 2, none⟩) mb).trans k1
          have k2' := (hbt.cell (p := ⟨b, o + k * 2 + 1, none⟩) mb).trans k2
          have mb' : b < wr.heap.size := Nat.lt_of_lt_of_le mb hbt.size
          have hot := ho.below hbt rfl
          by_cases hlt2 : a < S.length
          · obtain ⟨g, heg, hBg, hgl, hcc, hfz⟩ := hot.head (by omega)
            injection heg with heg
            injection heg with heg
            subst heg
            have k3 := (hcc a hlt2).1
            have k4 := (hcc a hlt2).2
            have h1a : (0 : Int) ≤ (a : Int) := by omega
            have h1b : (a : Int) < (S.length : Int) := by omega
            have HE := Lib.hid (ltN_at S a (tm l k) (pt l k))
            clear hcc hfz
            cases hB : lessB (tm S a) (pt S a) (tm l k) (pt l k)
            · have HB := Lib.hid hB
              have HE2 := Lib.hid (show ltN (S.getD a (0, 0)) (tm l k, pt l k) = false by rw [HE.out]; exact hB)
              have hca : ¬ co = a := by have := own_cap hot; omega
              have hac : (a : Int) ≤ (co : Int) := by have := own_cap hot; omega
              have haS : (a : Int) ≤ (S.length : Int) := by omega
              have hSc : (S.length : Int) ≤ (co : Int) := by have := own_cap hot; omega
              clear hB
              go_wp2_with fail
              go_region_held3 (fun w' => w'.cell? ⟨b, o + k * 2, none⟩ = some (.int .i64 (tm l k)) ∧ w'.cell? ⟨b, o + k * 2 + 1, none⟩ = some (.int .i64 (pt l k)) ∧ w'.cell? ⟨go, a * 2, none⟩ = some (.int .i64 (tm S a)) ∧ w'.cell? ⟨go, a * 2 + 1, none⟩ = some (.int .i64 (pt S a)) ∧ Below wr.heap.size wr w') (first | exact heldA_start k1' k2' k3 k4 rfl | assumption | exact heldA_keep mb' mb' hgl hgl (by assumption) hbz)
                (first | (go_at_call 94; refine (less_any _ _ _ _ _).mono ?_; rintro e wz ⟨rfl, hbz⟩; rw [HB.out]))
              rename_i hH
              have hb2 := hbt.trans ((heldA_bel hH).mono hbt.size)
              obtain ⟨j1, j2, j3, j4, jb⟩ := hH
              have mbz := Nat.lt_of_lt_of_le mb' jb.size
              have hf1 : ((a : Int) == (S.length : Int)) = false := by simp; omega
              by_cases e1 : tm S a = tm l k
              · by_cases e2 : pt S a = pt l k
                · have HX := Lib.hid (ins_not HN2.out hlt2 HLO.out HE2.out (getD_both e1 e2))
                  have q1 : (tm S a == tm l k) = true := by simpa using e1
                  have q2 : (pt S a == pt l k) = true := by simpa using e2
                  clear e1 e2
                  go_wp2_with fail
                  go_quiet (fail)
                  go_wp2
                  go_roundw
                  case rel => exact ⟨k + 1, go, co, by omega, by rw [HX.out], by go_num, by rw [HX.out]; exact (ho.below hb2 rfl).below (bel_drewN (Below.refl _ _) _) rfl, bel_drewN (hb.trans (hb2.mono hb.size)) _⟩
                  case measure => simp [intOf]; omega
                · have HNE := Lib.hid (getD_ne2 (x := tm l k) e2)
                  have q1 : (tm S a == tm l k) = true := by simpa using e1
                  have q2 : (pt S a == pt l k) = false := by simpa using e2
                  clear e1 e2
                  go_wp2_with fail
                  go_quiet (fail)
                  go_upto_region 9 with fail
                  generalize hWq : (wz.drewN _) = W0
                  have hb0 : Below wz.heap.size wz W0 := by rw [← hWq]; exact bel_drewN (Below.refl _ _) _
                  have k1q := (hb0.cell (p := ⟨b, o + k * 2, none⟩) mbz).trans j1
                  have k2q := (hb0.cell (p := ⟨b, o + k * 2 + 1, none⟩) mbz).trans j2
                  have mbq : b < W0.heap.size := Nat.lt_of_lt_of_le mbz hb0.size
                  have hoq := (ho.below hb2 rfl).below hb0 rfl
                  obtain ⟨T, hT⟩ : ∃ T, T = S.take a := ⟨_, rfl⟩
                  obtain ⟨R, hR⟩ : ∃ R, R = S.drop a := ⟨_, rfl⟩
                  have hTl : T.length = a := by rw [hT]; simp; omega
                  have hRl : R.length = S.length - a := by rw [hR]; simp
                  have hrdT : RdN W0 (some ⟨go, 0, none⟩) T := by rw [hT]; exact rd_take a hoq.rdA
                  have hrdR : RdN W0 (some ⟨go, a * 2, none⟩) R := by rw [hR]; exact rd_drop a hoq.rdA
                  have HX := Lib.hid (ins_here HN2.out (by omega) HLO.out HE2.out HNE.out hT hR)
                  have hS40 : S.length ≤ 40 := by omega
                  have HTL := Lib.hid hTl
                  have HRL := Lib.hid hRl
                  clear hWq hT hR hTl hRl
                  go_region_held3 (fun w' => w'.cell? ⟨b, o + k * 2, none⟩ = some (.int .i64 (tm l k)) ∧ w'.cell? ⟨b, o + k * 2 + 1, none⟩ = some (.int .i64 (pt l k)) ∧ Below W0.heap.size W0 w')
                    (first | exact ⟨k1q, k2q, (Below.refl _ _).drew⟩ | exact ⟨k1q, k2q, Below.refl _ _⟩ | assumption | exact heldB_keep mbq (by assumption) (((Below.refl _ _).alloc (Nat.le_refl _) _).drew) | exact heldB_keep mbq (by assumption) (((Below.refl _ _).alloc (Nat.le_refl _) _)) | exact heldC_keep mbq (by assumption) hbn1 | exact heldC_keep mbq (by assumption) hbn2 | exact heldC_keep mbq (by assumption) hbn3)
                    (first
                      | (refine step_app_pairs rfl (.tmp 50) (.tmp 53) _ rfl 37 Try.underlying32 (by kernel_rfl) W0.heap.size _ _ _ a [] T (some ⟨go, 0, none⟩) co rfl rfl rfl HTL.out rfl (by first | exact OwnN.lit0 W0 _ | exact (OwnN.lit0 W0 _).alloc _ | exact (own_drew (OwnN.lit0 W0 _)).alloc _ | exact own_one1 _ _ _) (hrdT.below (heldB_bel (by assumption)) rfl) (by have := HTL.out; simp; omega) (heldB_bel (by assumption)).size ?_; intro g1 c1 w1 hown1 hbn1 hgr1)
                      | (refine step_app_pairs rfl (.tmp 54) (.tmp 59) _ rfl 37 Try.underlying32 (by kernel_rfl) W0.heap.size g1 c1 _ _ ([] ++ T) [(tm l k, pt l k)] _ 1 rfl rfl rfl rfl rfl (by first | exact hown1 | exact hown1.alloc _) (by first | exact rd_one _ _ _ _ | exact rd_kept (rd_one1 _ _ _ _ _) hgr1 (by omega) | exact rd_kept (rd_alloc (rd_one _ _ _ _) _) hgr1 (by omega) | exact rd_kept (rd_drew (rd_one1 _ _ _ _ _)) hgr1 (by omega) | exact rd_kept (rd_drew (rd_alloc (rd_one _ _ _ _) _)) hgr1 (by omega) | exact rd_kept (rd_drew (rd_alloc (rd_drew (rd_one _ _ _ _)) _)) hgr1 (by omega)) (by have := HTL.out; simp; omega) (heldB_bel (by assumption)).size ?_; intro g2 c2 w2 hown2 hbn2 hgr2)
                      | (refine step_app_pairs rfl (.tmp 60) (.tmp 63) _ rfl 37 Try.underlying32 (by kernel_rfl) W0.heap.size g2 c2 _ _ ([] ++ T ++ [(tm l k, pt l k)]) R (some ⟨go, a * 2, none⟩) (co - a) rfl rfl rfl (by have := HRL.out; omega) rfl hown2 (hrdR.below (heldB_bel (by assumption)) rfl) (by have := HTL.out; have := HRL.out; simp; omega) (heldB_bel (by assumption)).size ?_; intro g3 c3 w3 hown3 hbn3 hgr3))
                  all_goals
                    have hB3 : Below w.heap.size w w3 := hb.trans ((hb2.trans ((hb0.trans ((heldB_bel (by assumption)).mono hb0.size)).mono hb2.size)).mono hb.size)
                    go_wp2
                    go_roundw
                    case rel => exact ⟨k + 1, g3, c3, by omega, by rw [HX.out]; simp, by go_num, by rw [HX.out]; exact hown3.base_le (Nat.le_trans hb.size (Nat.le_trans hb2.size hb0.size)), hB3⟩
                    case measure => simp [intOf]; omega
              · have HNE := Lib.hid (getD_ne1 (y := pt l k) e1)
                have q1 : (tm S a == tm l k) = false := by simpa using e1
                clear e1
                go_wp2_with fail
                go_quiet (fail)
                go_upto_region 9 with fail
                generalize hWq : (wz.drewN _) = W0
                have hb0 : Below wz.heap.size wz W0 := by rw [← hWq]; exact bel_drewN (Below.refl _ _) _
                have k1q := (hb0.cell (p := ⟨b, o + k * 2, none⟩) mbz).trans j1
                have k2q := (hb0.cell (p := ⟨b, o + k * 2 + 1, none⟩) mbz).trans j2
                have mbq : b < W0.heap.size := Nat.lt_of_lt_of_le mbz hb0.size
                have hoq := (ho.below hb2 rfl).below hb0 rfl
                obtain ⟨T, hT⟩ : ∃ T, T = S.take a := ⟨_, rfl⟩
                obtain ⟨R, hR⟩ : ∃ R, R = S.drop a := ⟨_, rfl⟩
                have hTl : T.length = a := by rw [hT]; simp; omega
                have hRl : R.length = S.length - a := by rw [hR]; simp
                have hrdT : RdN W0 (some ⟨go, 0, none⟩) T := by rw [hT]; exact rd_take a hoq.rdA
                have hrdR : RdN W0 (some ⟨go, a * 2, none⟩) R := by rw [hR]; exact rd_drop a hoq.rdA
                have HX := Lib.hid (ins_here HN2.out (by omega) HLO.out HE2.out HNE.out hT hR)
                have hS40 : S.length ≤ 40 := by omega
                have HTL := Lib.hid hTl
                have HRL := Lib.hid hRl
                clear hWq hT hR hTl hRl
                go_region_held3 (fun w' => w'.cell? ⟨b, o + k * 2, none⟩ = some (.int .i64 (tm l k)) ∧ w'.cell? ⟨b, o + k * 2 + 1, none⟩ = some (.int .i64 (pt l k)) ∧ Below W0.heap.size W0 w')
                  (first | exact ⟨k1q, k2q, (Below.refl _ _).drew⟩ | exact ⟨k1q, k2q, Below.refl _ _⟩ | assumption | exact heldB_keep mbq (by assumption) (((Below.refl _ _).alloc (Nat.le_refl _) _).drew) | exact heldB_keep mbq (by assumption) (((Below.refl _ _).alloc (Nat.le_refl _) _)) | exact heldC_keep mbq (by assumption) hbn1 | exact heldC_keep mbq (by assumption) hbn2 | exact heldC_keep mbq (by assumption) hbn3)
                  (first
                    | (refine step_app_pairs rfl (.tmp 50) (.tmp 53) _ rfl 37 Try.underlying32 (by kernel_rfl) W0.heap.size _ _ _ a [] T (some ⟨go, 0, none⟩) co rfl rfl rfl HTL.out rfl (by first | exact OwnN.lit0 W0 _ | exact (OwnN.lit0 W0 _).alloc _ | exact (own_drew (OwnN.lit0 W0 _)).alloc _ | exact own_one1 _ _ _) (hrdT.below (heldB_bel (by assumption)) rfl) (by have := HTL.out; simp; omega) (heldB_bel (by assumption)).size ?_; intro g1 c1 w1 hown1 hbn1 hgr1)
                    | (refine step_app_pairs rfl (.tmp 54) (.tmp 59) _ rfl 37 Try.underlying32 (by kernel_rfl) W0.heap.size g1 c1 _ _ ([] ++ T) [(tm l k, pt l k)] _ 1 rfl rfl rfl rfl rfl (by first | exact hown1 | exact hown1.alloc _) (by first | exact rd_one _ _ _ _ | exact rd_kept (rd_one1 _ _ _ _ _) hgr1 (by omega) | exact rd_kept (rd_alloc (rd_one _ _ _ _) _) hgr1 (by omega) | exact rd_kept (rd_drew (rd_one1 _ _ _ _ _)) hgr1 (by omega) | exact rd_kept (rd_drew (rd_alloc (rd_one _ _ _ _) _)) hgr1 (by omega) | exact rd_kept (rd_drew (rd_alloc (rd_drew (rd_one _ _ _ _)) _)) hgr1 (by omega)) (by have := HTL.out; simp; omega) (heldB_bel (by assumption)).size ?_; intro g2 c2 w2 hown2 hbn2 hgr2)
                    | (refine step_app_pairs rfl (.tmp 60) (.tmp 63) _ rfl 37 Try.underlying32 (by kernel_rfl) W0.heap.size g2 c2 _ _ ([] ++ T ++ [(tm l k, pt l k)]) R (some ⟨go, a * 2, none⟩) (co - a) rfl rfl rfl (by have := HRL.out; omega) rfl hown2 (hrdR.below (heldB_bel (by assumption)) rfl) (by have := HTL.out; have := HRL.out; simp; omega) (heldB_bel (by assumption)).size ?_; intro g3 c3 w3 hown3 hbn3 hgr3))
                all_goals
                  have hB3 : Below w.heap.size w w3 := hb.trans ((hb2.trans ((hb0.trans ((heldB_bel (by assumption)).mono hb0.size)).mono hb2.size)).mono hb.size)
                  go_wp2
                  go_roundw
                  case rel => exact ⟨k + 1, g3, c3, by omega, by rw [HX.out]; simp, by go_num, by rw [HX.out]; exact hown3.base_le (Nat.le_trans hb.size (Nat.le_trans hb2.size hb0.size)), hB3⟩
                  case measure => simp [intOf]; omega
            · have HB := Lib.hid hB
              clear hB
              go_wp2_with fail
              go_region_held3 (fun w' => w'.cell? ⟨b, o + k * 2, none⟩ = some (.int .i64 (tm l k)) ∧ w'.cell? ⟨b, o + k * 2 + 1, none⟩ = some (.int .i64 (pt l k)) ∧ w'.cell? ⟨go, a * 2, none⟩ = some (.int .i64 (tm S a)) ∧ w'.cell? ⟨go, a * 2 + 1, none⟩ = some (.int .i64 (pt S a)) ∧ Below wr.heap.size wr w') (first | exact heldA_start k1' k2' k3 k4 rfl | assumption | exact heldA_keep mb' mb' hgl hgl (by assumption) hbz)
                (first | (go_at_call 94; refine (less_any _ _ _ _ _).mono ?_; rintro e wz ⟨rfl, hbz⟩; rw [HB.out]))
              rename_i hH
              have hb2 := hbt.trans ((heldA_bel hH).mono hbt.size)
              go_wp2
              go_roundw
              case rel => exact ⟨a + 1, by omega, by go_num, fun j hj => by
                by_cases e : j = a
                · subst e; rw [HE.out, HB.out]
                · exact HLO.out j (by omega), hb2⟩
              case measure => simp [intOf]; omega
          · obtain rfl : a = S.length := by omega
            have HX := Lib.hid (show srtTo l (k + 1) = [] ++ S ++ [(tm l k, pt l k)] ++ [] by rw [HN2.out, insN_at (x := (tm l k, pt l k)) S S.length (Nat.le_refl _) HLO.out (Or.inl rfl), if_pos (Or.inl rfl)]; simp)
            have hf : decide ((S.length : Int) < (S.length : Int)) = false := by simp
            have hf2 : ((S.length : Int) == (S.length : Int)) = true := by simp
            go_wp2_with fail
            go_quiet (fail)
            go_wp2_with fail
            go_quiet (fail)
            go_upto_region 9 with fail
            generalize hWq : ((wr.drewN _).drewN _) = W0
            have hb0 : Below wr.heap.size wr W0 := by rw [← hWq]; exact bel_drewN (bel_drewN (Below.refl _ _) _) _
            have k1q := (hb0.cell (p := ⟨b, o + k * 2, none⟩) mb').trans k1'
            have k2q := (hb0.cell (p := ⟨b, o + k * 2 + 1, none⟩) mb').trans k2'
            have mbq : b < W0.heap.size := Nat.lt_of_lt_of_le mb' hb0.size
            have hSc : (S.length : Int) ≤ (co : Int) := by have := own_cap hot; omega
            have hown0 : ∀ V : World, OwnN 37 V.heap.size (V.alloc (.cells #[] 37)) (.slice (some ⟨V.heap.size, 0, none⟩) ([] : List (Int × Int)).length 0) [] := fun V => OwnN.lit0 V _
            have hoq := hot.below hb0 rfl
            clear hWq
            have hrdS := hoq.rdA
            have hS40 : S.length ≤ 40 := by omega
            go_region_held3 (fun w' => w'.cell? ⟨b, o + k * 2, none⟩ = some (.int .i64 (tm l k)) ∧ w'.cell? ⟨b, o + k * 2 + 1, none⟩ = some (.int .i64 (pt l k)) ∧ Below W0.heap.size W0 w')
              (first | exact ⟨k1q, k2q, (Below.refl _ _).drew⟩ | exact ⟨k1q, k2q, Below.refl _ _⟩ | assumption | exact heldB_keep mbq (by assumption) (((Below.refl _ _).alloc (Nat.le_refl _) _).drew) | exact heldB_keep mbq (by assumption) (((Below.refl _ _).alloc (Nat.le_refl _) _)) | exact heldC_keep mbq (by assumption) hbn1 | exact heldC_keep mbq (by assumption) hbn2 | exact heldC_keep mbq (by assumption) hbn3)
              (first
                | (refine step_app_pairs rfl (.tmp 50) (.tmp 53) _ rfl 37 Try.underlying32 (by kernel_rfl) W0.heap.size _ _ _ S.length [] S (some ⟨go, 0, none⟩) co rfl rfl rfl rfl rfl (by first | exact OwnN.lit0 W0 _ | exact (OwnN.lit0 W0 _).alloc _ | exact (own_drew (OwnN.lit0 W0 _)).alloc _ | exact own_one1 _ _ _) (hrdS.below (heldB_bel (by assumption)) rfl) (by simp; omega) (heldB_bel (by assumption)).size ?_; intro g1 c1 w1 hown1 hbn1 hgr1)
                | (refine step_app_pairs rfl (.tmp 54) (.tmp 59) _ rfl 37 Try.underlying32 (by kernel_rfl) W0.heap.size g1 c1 _ _ ([] ++ S) [(tm l k, pt l k)] _ 1 rfl rfl rfl rfl rfl (by first | exact hown1 | exact hown1.alloc _) (by first | exact rd_one _ _ _ _ | exact rd_kept (rd_one1 _ _ _ _ _) hgr1 (by omega) | exact rd_kept (rd_alloc (rd_one _ _ _ _) _) hgr1 (by omega) | exact rd_kept (rd_drew (rd_one1 _ _ _ _ _)) hgr1 (by omega) | exact rd_kept (rd_drew (rd_alloc (rd_one _ _ _ _) _)) hgr1 (by omega) | exact rd_kept (rd_drew (rd_alloc (rd_drew (rd_one _ _ _ _)) _)) hgr1 (by omega)) (by simp; omega) (heldB_bel (by assumption)).size ?_; intro g2 c2 w2 hown2 hbn2 hgr2)
                | (refine step_app_pairs rfl (.tmp 60) (.tmp 63) _ rfl 37 Try.underlying32 (by kernel_rfl) W0.heap.size g2 c2 _ 0 ([] ++ S ++ [(tm l k, pt l k)]) [] (if co = S.length then some ⟨go, 0, none⟩ else some ⟨go, S.length * 2, none⟩) (co - S.length) rfl rfl rfl rfl some_if hown2 (rd_nil _ _) (len_3 hS40 (Nat.zero_le _)) (heldB_bel (by assumption)).size ?_; intro g3 c3 w3 hown3 hbn3 hgr3))
            all_goals
              have hB3 : Below w.heap.size w w3 := hb.trans ((hbt.trans ((hb0.trans ((heldB_bel (by assumption)).mono hb0.size)).mono hbt.size)).mono hb.size)
              go_wp2
              go_roundw
              case rel => exact ⟨k + 1, g3, c3, by omega, by rw [HX.out]; simp, by go_num, by rw [HX.out]; exact hown3.base_le (Nat.le_trans hb.size (Nat.le_trans hbt.size hb0.size)), hB3⟩
              case measure => simp [intOf]; omega
      · obtain rfl : k = l.length := by omega
        go_wp2
        go_ret
        rw [HR.out] at ho ⊢
        exact RetN.mk ho hb
  · have HR := Lib.hid (srt40_no h40)
    have h0 : ¬ (l.length : Int) ≤ 40 := h40
    have h1 : (0 : Int) < (l.length : Int) := by omega
    go_enter Try.func65, Try.ntmps65
    go_wp2
    go_loopw [3, 4] (fun v i wr => v = .slice (some ⟨w.heap.size, 0, none⟩) 0 0 ∧ i = .int .i64 0 ∧ wr = w.alloc (.cells #[] 37)) (fun _ i _ => 1)
    case atStart => exact ⟨rfl, rfl, rfl⟩
    case round =>
      obtain ⟨rfl, rfl, rfl⟩ := hrel
      go_wp2
      go_ret
      rw [HR.out]
      exact RetN.mk hz hbz
end Go.Proofs.Ytkbceojeahninaa
