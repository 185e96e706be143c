/- The reference's l20Moved: the same as the program's movedAround, on lists in range. -/
import Derived.Test.YtcjlkdojobdlcaaRhythm
namespace Go.Proofs.Ytcjlkdojobdlcaa
open Go.ChangeShapes Go.WideShapes Go.ChangeAt Go.RowKit
set_option linter.unusedVariables false
/-- What is marked after k elements. -/
def onTo (b : List Int) (k t : Nat) : Bool := decide (∃ i, i < k ∧ gt b i = (t : Int))
theorem onTo_succ (b : List Int) (k t x : Nat) (hx : gt b k = (x : Int)) : onTo b (k + 1) t = if t = x then true else onTo b k t := by
  unfold onTo
  by_cases h : t = x
  · rw [if_pos h]
    exact decide_eq_true ⟨k, by omega, by rw [hx, h]⟩
  · rw [if_neg h]
    rw [decide_eq_decide]
    constructor
    · rintro ⟨i, hi, he⟩
      by_cases e : i = k
      · subst e; omega
      · exact ⟨i, by omega, he⟩
    · rintro ⟨i, hi, he⟩
      exact ⟨i, by omega, he⟩
set_option maxHeartbeats 1000000 in
theorem l20Moved_any (A B : Option Addr) (c d : Nat) (a b : List Int) (n s : Nat) (w : World) (hA : RdI w A a) (hB : RdI w B b) (hl : a.length ≤ 1000000000) (hm : b.length ≤ 1000000000) (hs : 1 ≤ s ∧ s ≤ 96) (hn : n ≤ 96)
    (hr : ∀ i, i < a.length → 0 ≤ gt a i ∧ gt a i ≤ (s : Int) - 1) (hq : ∀ i, i < b.length → 0 ≤ gt b i ∧ gt b i ≤ (s : Int) - 1) :
    Calls Try.prog 44 #[.slice A a.length c, .slice B b.length d, .int .i64 n, .int .i64 s] w fun e w' => e = .returned (.bool (movB a b n s)) ∧ Below w.heap.size w w' := by
  obtain ⟨hs1, hs2⟩ := hs
  go_enter Try.func44, Try.ntmps44
  go_wp2_with (at_make; refine make_bools rfl _ _ 55 rfl 4 Try.underlying55 (by kernel_rfl) w.heap.size s rfl rfl (by omega) (Nat.le_refl _) ?_; intro w1 hown hb1 hz1)
  go_loopw [10] (fun q wr => ∃ (k : Nat) (L : List Bool), k ≤ b.length ∧ q = .int .i64 k ∧ L.length = s ∧ (∀ t, t < s → gbo L t = onTo b k t) ∧ OwnT 4 w.heap.size wr (.slice (some ⟨w.heap.size, 0, none⟩) s s) L ∧ Below w.heap.size w wr) (fun q _ => b.length - (intOf q).toNat)
  case atStart => exact ⟨0, _, by omega, rfl, List.length_replicate, fun t ht => by rw [gbo_rep]; exact (decide_eq_false (fun ⟨i, hi, _⟩ => by omega)).symm, hown, hb1⟩
  case round =>
    clear hown hb1 hz1
    obtain ⟨k, L, hk, rfl, hL, hM, ho, hb⟩ := hrel
    have HL := Lib.hid hL
    have HM := Lib.hid hM
    by_cases hlt : k < b.length
    · obtain ⟨b1, o1, rfl, hbl, hcl⟩ := hB (by omega)
      obtain ⟨q1, q2⟩ := hq k hlt
      obtain ⟨x, hx⟩ := Int.eq_ofNat_of_zero_le q1
      have hxs : x < s := by omega
      have hcx := (hb.cell (p := ⟨b1, o1 + k, none⟩) hbl).trans (hcl k hlt)
      rw [hx] at hcx
      obtain ⟨g, he, _, _, hcg, hfg⟩ := ho.head (by omega)
      injection he with he
      injection he with he
      subst he
      have hc0 := hcg x (by omega)
      have hfz := hfg x
      have hst := ho.stored x true
      have HS := Lib.hid hst.1
      have HB := Lib.hid (hb.trans (grown_Below hst.2 hb.size (fun q hq => by injection hq with hq; omega)))
      have HX := Lib.hid hx
      clear hcl hcg hfg hL hM hst ho hb hA hB hr hq q1 q2 hx
      go_wp2
      go_roundw
      case rel =>
        refine ⟨k + 1, _, by omega, by go_num, by rw [List.length_set]; exact HL.out, fun t ht => ?_, HS.out, HB.out⟩
        rw [gbo_set _ _ _ _ (by rw [HL.out]; exact hxs), onTo_succ b k t x HX.out, HM.out t ht]
      case measure => simp [intOf]; omega
    · have HO := Lib.hid ho
      have HX := Lib.hid hb
      obtain rfl : k = b.length := by omega
      clear hL hM ho hq hB hb hlt
      go_wp2
      go_loop [11] (fun q => ∃ k : Nat, k ≤ a.length ∧ q = .int .i64 k ∧ ∀ i, i < k → movAt a b n s i) (fun q => a.length - (intOf q).toNat)
      case atStart => exact ⟨0, by omega, rfl, fun _ h => by omega⟩
      case round =>
        obtain ⟨k, hk, rfl, hN⟩ := hrel
        have HN := Lib.hid hN
        clear hN
        by_cases hlt : k < a.length
        · obtain ⟨b1, o1, rfl, hbl, hcl⟩ := hA (by omega)
          obtain ⟨q1, q2⟩ := hr k hlt
          obtain ⟨x, hx⟩ := Int.eq_ofNat_of_zero_le q1
          have hcx := (HX.out.cell (p := ⟨b1, o1 + k, none⟩) hbl).trans (hcl k hlt)
          rw [hx] at hcx
          have hL := HL.out
          have hxs : x < s := by omega
          have hm1 : 0 ≤ ((x : Int) + (n : Int)) % (s : Int) := Int.emod_nonneg _ (by omega)
          have hm2 : ((x : Int) + (n : Int)) % (s : Int) < (s : Int) := Int.emod_lt_of_pos _ (by omega)
          have hys : (x + n) % s < s := Nat.mod_lt _ (by omega)
          obtain ⟨g, he, _, _, hcg, hfg⟩ := HO.out.head (by omega)
          injection he with he
          injection he with he
          subst he
          have hc0 := hcg ((x + n) % s) (by omega)
          have hval : gbo L ((x + n) % s) = memB b ((gt a k + n) % s) := by
            rw [HM.out _ hys, hx]
            unfold onTo memB
            simp
          rcases hmem : memB b ((gt a k + n) % s) with _ | _
          · have HR : Hid (movB a b n s = false) := mov_no hlt hmem
            rw [hval, hmem] at hc0
            clear hcl hcg hfg hL hval hmem hr hA hx q1 q2 hys
            go_wp2
            go_ret
            exact ⟨ret_bool HR.out.symm, HX.out⟩
          · have HA : Hid (movAt a b n s k) := hmem
            rw [hval, hmem] at hc0
            clear hcl hcg hfg hL hval hmem hr hA hx q1 q2 hys
            go_wp2
            go_round
            case rel => exact ⟨k + 1, by omega, by go_num, to_succ HN.out HA.out⟩
            case measure => simp [intOf]; omega
        · clear hr hA
          obtain rfl : k = a.length := by omega
          go_wp2
          go_ret
          refine ⟨ret_bool ?_, HX.out⟩
          unfold movB
          by_cases e : a.length = b.length
          · rw [decide_eq_true ⟨e, HN.out⟩]; simp; omega
          · rw [decide_eq_false (fun hh => e hh.1)]; simp; omega
end Go.Proofs.Ytcjlkdojobdlcaa
