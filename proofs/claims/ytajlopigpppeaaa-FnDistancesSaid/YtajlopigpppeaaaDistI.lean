/- The distance between two tunes: the program's own. -/
import Derived.Test.YtajlopigpppeaaaDist
import Derived.Laws.Cover1
namespace Go.Proofs.Ytajlopigpppeaaa
open Go.ChangeShapes Go.WideShapes Go.ChangeAt Go.RowKit
set_option linter.unusedVariables false
theorem dis_val3 (a b : List (Int × Int)) (n m : Nat) (z : Int) (hz : z = dis a b n m + if pt a n = pt b m then 0 else 1) :
    (if dis a b (n + 1) m + 1 < if dis a b n (m + 1) + 1 < z then dis a b n (m + 1) + 1 else z then dis a b (n + 1) m + 1 else if dis a b n (m + 1) + 1 < z then dis a b n (m + 1) + 1 else z) = dis a b (n + 1) (m + 1) := by
  have hd : dis a b (n + 1) (m + 1) = min z (min (dis a b n (m + 1)) (dis a b (n + 1) m) + 1) := by rw [hz, dis]
  rw [hd]
  clear hd hz
  split <;> split <;> omega
theorem dis_val3n (a b : List (Int × Int)) (n m : Nat) (h : ¬ pt a n = pt b m) :
    (if dis a b (n + 1) m + 1 < if dis a b n (m + 1) < dis a b n m then dis a b n (m + 1) + 1 else dis a b n m + 1 then dis a b (n + 1) m + 1 else if dis a b n (m + 1) < dis a b n m then dis a b n (m + 1) + 1 else dis a b n m + 1) = dis a b (n + 1) (m + 1) := by
  have hd : dis a b (n + 1) (m + 1) = min (dis a b n m + 1) (min (dis a b n (m + 1)) (dis a b (n + 1) m) + 1) := by rw [dis, if_neg h]
  rw [hd]
  clear hd
  split <;> split <;> omega
attribute [local irreducible] tm pt tuneB lst in
set_option maxHeartbeats 1600000 in
theorem impl_Dist_ok (A B : Option Addr) (c d : Nat) (a b : List (Int × Int)) (w : World) (hra : RdN w A a) (hrb : RdN w B b) (hla : a.length ≤ 100000) (hlb : b.length ≤ 100000) (hA : tuneB a = true) (hB : tuneB b = true) :
    Calls Try.prog 32 #[.slice A a.length c, .slice B b.length d] w fun e w' => e = .returned (.int .i64 (dis a b a.length b.length)) ∧ Below w.heap.size w w' := by
  have HA := Lib.hid hA
  have HB := Lib.hid hB
  clear hA hB
  go_enter Try.func32, Try.ntmps32
  go_wp2_with fail
  refine (impl_TuneOk _ _ _ _ hra (by omega)).mono ?_
  rintro e w1 ⟨rfl, hb1⟩
  rw [HA.out]
  go_wp2_with fail
  refine (impl_TuneOk _ _ _ _ (hrb.below hb1 rfl) (by omega)).mono ?_
  rintro e w2 ⟨rfl, hb2⟩
  rw [HB.out]
  have hb02 := hb1.trans (hb2.mono hb1.size)
  have ra := hra.below hb02 rfl
  have rb := hrb.below hb02 rfl
  clear hra hrb hb1 hb2
  go_wp2_with fail
  refine (upTo_any (b.length + 1) _ (by omega)).mono ?_
  rintro e w3 ⟨A3, c3, rfl, ho3, _, _, _, _, hb3⟩
  have HZ := Lib.hid (show lst (dis a b 0) (b.length + 1) = lst (fun k => (k : Int)) (b.length + 1) by congr 1; funext k; unfold dis; rfl)
  have hl3 : (lst (fun k => (k : Int)) (b.length + 1)).length = b.length + 1 := lst_len _ _
  rw [hl3] at ho3 ⊢
  have HO3 : Hid (OwnI 3 w2.heap.size w3 (.slice A3 (b.length + 1) c3) (lst (dis a b 0) (b.length + 1))) := by unfold Hid; rw [HZ.out]; exact ho3
  clear ho3 hl3
  go_wp2
  go_loopw [5, 26] (fun v i wr => ∃ n : Nat, n ≤ a.length ∧ i = .int .i64 n ∧ OwnI 3 w2.heap.size wr v (lst (dis a b n) (b.length + 1)) ∧ Below w2.heap.size w2 wr) (fun _ i _ => a.length - (intOf i).toNat)
  case atStart => exact ⟨0, by omega, rfl, HO3.out, hb3⟩
  case round =>
    obtain ⟨n, hn, rfl, hrow, hbr⟩ := hrel
    obtain ⟨wo, hwo⟩ : ∃ wo, wo = wr := ⟨wr, rfl⟩
    subst hwo
    by_cases hln : n < a.length
    · have HO := Lib.hid (show lst (dis a b (n + 1)) 1 = [(n : Int) + 1] by rw [lst_one]; unfold dis; rfl)
      have hBr := hbr.size
      obtain ⟨Av, cv, rfl, _, _, hrr⟩ := hrow.rd
      have hrlen : (lst (dis a b n) (b.length + 1)).length = b.length + 1 := lst_len _ _
      rw [hrlen] at hrow ⊢
      obtain ⟨b2, o2, rfl, l2, hc2⟩ := ra (by omega)
      have p0 := (hbr.cell (p := ⟨b2, o2 + n * 2, none⟩) l2).trans (hc2 n hln).1
      have p1 := (hbr.cell (p := ⟨b2, o2 + n * 2 + 1, none⟩) l2).trans (hc2 n hln).2
      obtain ⟨W, hW⟩ : ∃ W, W = wo.alloc (Obj.cells #[.int .i64 (tm a n), .int .i64 (pt a n)] 42) := ⟨_, rfl⟩
      have hBW : Below wo.heap.size wo W := by rw [hW]; exact (Below.refl _ _).alloc (Nat.le_refl _) _
      have hWs : W.heap.size = wo.heap.size + 1 := by rw [hW]; simp
      have n1 : W.cell? ⟨wo.heap.size, 1, none⟩ = some (.int .i64 (pt a n)) := by rw [hW]; simp [go_sem]
      have HW := Lib.hid hW
      have HWs := Lib.hid hWs
      have HBW := Lib.hid (hbr.trans (hBW.mono hBr))
      have rrW := hrr.below hBW rfl
      obtain ⟨S, hS⟩ : ∃ S, S = wo.heap.size := ⟨_, rfl⟩
      have hSW : S < W.heap.size := by omega
      have h0a : (0 : Int) ≤ (n : Int) := by omega
      have h0b : (n : Int) < (a.length : Int) := by omega
      have h0n : IntKind.i64.wrap ((n : Int) + 1) = (n : Int) + 1 := IntWalk.i64_in _ (by omega)
      clear hW hBW hWs hc2 hrr
      go_wp2_with fail
      rw [← HW.out]
      go_loopw [8, 36] (fun v i wt => ∃ m : Nat, m ≤ b.length ∧ i = .int .i64 m ∧ OwnI 3 W.heap.size wt v (lst (dis a b (n + 1)) (m + 1)) ∧ Below W.heap.size W wt) (fun _ i _ => b.length - (intOf i).toNat)
      case atStart => exact ⟨0, by omega, rfl, by rw [HO.out, ← HWs.out]; exact OwnI.lit1 _ _ _, (Below.refl _ _).alloc (Nat.le_refl _) _⟩
      case round =>
        obtain ⟨m, hm, rfl, hnx, hbt⟩ := hrel
        by_cases hlm : m < b.length
        · obtain ⟨b3, o3, rfl, l3, hc3⟩ := rb (by omega)
          have hbs2 := HBW.out.trans (hbt.mono HBW.out.size)
          have p2 := (hbs2.cell (p := ⟨b3, o3 + m * 2, none⟩) l3).trans (hc3 m hlm).1
          have p3 := (hbs2.cell (p := ⟨b3, o3 + m * 2 + 1, none⟩) l3).trans (hc3 m hlm).2
          have k1 := (hbt.cell (p := ⟨wo.heap.size, 1, none⟩) (hS ▸ hSW)).trans n1
          obtain ⟨V, hV⟩ : ∃ V, V = wr.alloc (Obj.cells #[.int .i64 (tm b m), .int .i64 (pt b m)] 42) := ⟨_, rfl⟩
          have hBV : Below wr.heap.size wr V := by rw [hV]; exact (Below.refl _ _).alloc (Nat.le_refl _) _
          have hVs : V.heap.size = wr.heap.size + 1 := by rw [hV]; simp
          have n2 : V.cell? ⟨wr.heap.size, 1, none⟩ = some (.int .i64 (pt b m)) := by rw [hV]; simp [go_sem]
          have k2 := (hBV.cell (p := ⟨wo.heap.size, 1, none⟩) (Nat.lt_of_lt_of_le (hS ▸ hSW) hbt.size)).trans k1
          have HV := Lib.hid hV
          have HVs := Lib.hid hVs
          have HbtV := Lib.hid (hbt.trans (hBV.mono hbt.size))
          have hnV := hnx.below hBV rfl
          have hbV := hbs2.trans (hBV.mono hbs2.size)
          obtain ⟨b1, o1, rfl, l1, hc1⟩ := rrW (by rw [hrlen]; omega)
          have r1 := (HbtV.out.cell (p := ⟨b1, o1 + m, none⟩) l1).trans (hc1 m (by rw [hrlen]; omega))
          have r2 := (HbtV.out.cell (p := ⟨b1, o1 + (m + 1), none⟩) l1).trans (hc1 (m + 1) (by rw [hrlen]; omega))
          rw [lst_get (by omega)] at r1 r2
          obtain ⟨Ax, cx, rfl, _, _, _⟩ := hnV.rd
          have hxlen : (lst (dis a b (n + 1)) (m + 1)).length = m + 1 := lst_len _ _
          have hx9 : (lst (dis a b (n + 1)) (m + 1)).length ≤ 1000000000 := by omega
          rw [hxlen] at hnV ⊢
          obtain ⟨g, he, hgW, hgl, hcn, _⟩ := hnV.head (by rw [hxlen]; omega)
          subst he
          have s1 := hcn m (by rw [hxlen]; omega)
          rw [lst_get (by omega)] at s1
          have HX := Lib.hid (lst_snoc (dis a b (n + 1)) (m + 1))
          have hbT := HbtV.out.size
          have hg1 := dis_rng a b n m
          have hg2 := dis_rng a b n (m + 1)
          have hg3 := dis_rng a b (n + 1) m
          have h0c : (0 : Int) ≤ (m : Int) := by omega
          have h0d : (m : Int) < (b.length : Int) := by omega
          have h0e : (m : Int) + 1 < (b.length : Int) + 1 := by omega
          have h0f : (0 : Int) ≤ (m : Int) + 1 := by omega
          have h0h : (m : Int) < (b.length : Int) + 1 := by omega
          have h0g : (m : Int) < (m : Int) + 1 := by omega
          have hne : b1 ≠ g := by omega
          have mb1 : b1 < V.heap.size := by omega
          have HL := Lib.hid (show IntKind.i64.wrap ((m : Int) + 1) = (m : Int) + 1 from IntWalk.i64_in _ (by omega))
          have HL1 := Lib.hid (show IntKind.i64.wrap (dis a b n (m + 1) + 1) = dis a b n (m + 1) + 1 from IntWalk.i64_in _ (by omega))
          have HL2 := Lib.hid (show IntKind.i64.wrap (dis a b (n + 1) m + 1) = dis a b (n + 1) m + 1 from IntWalk.i64_in _ (by omega))
          have r1a : (wr.alloc (Obj.cells #[.int .i64 (tm b m), .int .i64 (pt b m)] 42)).cell? ⟨b1, o1 + m, none⟩ = some (.int .i64 (dis a b n m)) := by rw [← hV]; exact r1
          have k2a : (wr.alloc (Obj.cells #[.int .i64 (tm b m), .int .i64 (pt b m)] 42)).cell? ⟨wo.heap.size, 1, none⟩ = some (.int .i64 (pt a n)) := by rw [← hV]; exact k2
          clear hcn hxlen hc1 hc3 hV hBV hVs rb hbs2 hnx hbt
          by_cases he : pt a n = pt b m
          · have HD := Lib.hid (dis_val3 a b n m (dis a b n m) (by rw [if_pos he]; omega))
            have hq : (pt a n != pt b m) = false := by simpa using he
            clear he
            go_wp2_with fail
            rw [← HV.out]
            have q2 := HL.out
            have q3 := HL1.out
            have q4 := HL2.out
            have hv2 := fun (o : Obj) => hnV.below ((Below.refl V.heap.size V).alloc (Nat.le_refl _) o).drew rfl
            have hgv := lst_get (f := dis a b (n + 1)) (n := m + 1) (k := m) (by omega)
            have hgm : m < (lst (dis a b (n + 1)) (m + 1)).length := by rw [lst_len]; omega
            have hbk := fun (o : Obj) => ((Below.refl V.heap.size V).alloc (Nat.le_refl _) o).drew
            go_region_held3 (fun w' => w'.cell? ⟨b1, o1 + (m + 1), none⟩ = some (.int .i64 (dis a b n (m + 1))) ∧ w'.cell? ⟨g, m, none⟩ = some (.int .i64 (dis a b (n + 1) m)))
              (first | exact ⟨r2, s1⟩ | exact ⟨hgr.cell (((hbk _).cell mb1).trans r2) (by simpa [Value.ownBlock] using hne), next_kept (v := .slice (some ⟨g, 0, none⟩) (m + 1) cx) rfl hgv hgm hown2 hvb (((hbk _).cell hgl).trans s1) (Nat.lt_of_lt_of_le hgl (hbk _).size)⟩ | go_keep)
              ((refine step_app_int2 (by rfl) _ _ _ (by rfl) 3 Try.underlying24 (by kernel_rfl) _ _ (lst (dis a b (n + 1)) (m + 1)) (dis a b (n + 1) (m + 1)) V.heap.size (hv2 _) (by rfl) (by rfl) (by rw [HD.out]; simp [go_sem]) hx9 (by simp; omega) ?_; intro v' w2 hown2 hbn hgr hvb))
            clear q2 q3 q4
            go_wp2
            all_goals
              go_roundw
              case rel => exact ⟨m + 1, by omega, by go_num, by rw [HX.out]; exact hown2, ((HbtV.out.alloc hbT _).drew).trans hbn⟩
              case measure => simp [intOf]; omega
          · go_wp2_with fail
            rw [← HV.out]
            have q2 := HL.out
            have q3 := HL1.out
            have q4 := HL2.out
            have hv2 := fun (o : Obj) => hnV.below ((Below.refl V.heap.size V).alloc (Nat.le_refl _) o).drew rfl
            have HD := Lib.hid (dis_val3n a b n m he)
            have hgv := lst_get (f := dis a b (n + 1)) (n := m + 1) (k := m) (by omega)
            have hgm : m < (lst (dis a b (n + 1)) (m + 1)).length := by rw [lst_len]; omega
            have hbk := fun (o : Obj) => ((Below.refl V.heap.size V).alloc (Nat.le_refl _) o).drew
            go_region_held3 (fun w' => w'.cell? ⟨b1, o1 + (m + 1), none⟩ = some (.int .i64 (dis a b n (m + 1))) ∧ w'.cell? ⟨g, m, none⟩ = some (.int .i64 (dis a b (n + 1) m)))
              (first | exact ⟨r2, s1⟩ | exact ⟨hgr.cell (((hbk _).cell mb1).trans r2) (by simpa [Value.ownBlock] using hne), next_kept (v := .slice (some ⟨g, 0, none⟩) (m + 1) cx) rfl hgv hgm hown2 hvb (((hbk _).cell hgl).trans s1) (Nat.lt_of_lt_of_le hgl (hbk _).size)⟩ | go_keep)
              ((refine step_app_int2 (by rfl) _ _ _ (by rfl) 3 Try.underlying24 (by kernel_rfl) _ _ (lst (dis a b (n + 1)) (m + 1)) (dis a b (n + 1) (m + 1)) V.heap.size (hv2 _) (by rfl) (by rfl) (by rw [HD.out]; simp [go_sem]) hx9 (by simp; omega) ?_; intro v' w2 hown2 hbn hgr hvb))
            clear q2 q3 q4
            go_wp2
            all_goals
              go_roundw
              case rel => exact ⟨m + 1, by omega, by go_num, by rw [HX.out]; exact hown2, ((HbtV.out.alloc hbT _).drew).trans hbn⟩
              case measure => simp [intOf]; omega
        · obtain rfl : m = b.length := by omega
          go_wp2
          go_roundw
          case rel => exact ⟨n + 1, by omega, by go_num, hnx.base_le HBW.out.size, HBW.out.trans (hbt.mono HBW.out.size)⟩
          case measure => simp [intOf]; omega
    · obtain rfl : n = a.length := by omega
      obtain ⟨Av, cv, rfl, _, _, hrr⟩ := hrow.rd
      have hrlen := lst_len (dis a b a.length) (b.length + 1)
      obtain ⟨b1, o1, rfl, l1, hc1⟩ := hrr (by omega)
      have r1 := hc1 b.length (by omega)
      rw [lst_get (by omega)] at r1
      rw [hrlen]
      have h0a : (b.length : Int) < (b.length : Int) + 1 := by omega
      clear hc1 hrr hrow hrlen
      go_wp2
      go_ret
      exact ⟨rfl, hb02.trans (hbr.mono hb02.size)⟩
end Go.Proofs.Ytajlopigpppeaaa
