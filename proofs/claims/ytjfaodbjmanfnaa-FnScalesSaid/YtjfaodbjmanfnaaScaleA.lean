/- The program's and the reference's RotateScale and MajorScale return the same for every number. -/
import Derived.Test.YtjfaodbjmanfnaaBase
import Derived.Test.YtjfaodbjmanfnaaBits
import Derived.Test.YtjfaodbjmanfnaaScalePure
import Derived.Test.YtjfaodbjmanfnaaRows
namespace Go.Proofs.Ytjfaodbjmanfnaa
open Go.ChangeShapes Go.WideShapes Go.ChangeAt Go.RowKit

theorem memN_succ (s k : Nat) : memN s (k + 1) = memN s k ++ (if (s >>> k) &&& 1 == 1 then [k] else []) := by
  unfold memN
  rw [List.range_succ, List.filter_append]
  congr 1
  rw [List.filter_cons]
  rfl
def nats (l : List Nat) : List Int := l.map Int.ofNat
theorem nats_app (l m : List Nat) : nats (l ++ m) = nats l ++ nats m := by simp [nats]
theorem gt_nats (l : List Nat) (i : Nat) (h : i < l.length) : gt (nats l) i = ((l[i] : Nat) : Int) := by
  simp [gt, nats, List.getD, h]
theorem memN_lt (s n : Nat) : ∀ x ∈ memN s n, x < n := by
  intro x hx
  unfold memN at hx
  simp at hx
  exact hx.1
theorem memN_length (s n : Nat) : (memN s n).length ≤ n := by
  unfold memN
  have := List.length_filter_le (fun j => (s >>> j) &&& 1 == 1) (List.range n)
  simpa using this
theorem bit_test (s k : Nat) (hs : s < 4096) : (bits BinOp.and IntKind.i64 ((s : Int) / 2 ^ k) 1 == 1) = ((s >>> k) &&& 1 == 1) := by
  have h : ((s : Int) / 2 ^ k) = ((s >>> k : Nat) : Int) := by rw [Nat.shiftRight_eq_div_pow]; simp
  rw [h, show (1 : Int) = ((1 : Nat) : Int) from rfl, and_nat _ _ (by have := Nat.shiftRight_le s k; omega) (by omega)]
  rw [Bool.eq_iff_iff, beq_iff_eq, beq_iff_eq]
  omega

set_option maxHeartbeats 400000 in
theorem membersOf_any (s n : Nat) (hs : s < 4096) (hn : n ≤ 60) (w : World) :
    Calls Try.prog 99 #[.int .i64 s, .int .i64 n] w (RetI 3 w.heap.size (nats (memN s n)) w) := by
  go_enter Try.func99, Try.ntmps99
  go_wp2
  go_loopw [5, 6] (fun v i wr => ∃ k : Nat, k ≤ n ∧ i = .int .i64 k ∧ OwnI 3 w.heap.size wr v (nats (memN s k)) ∧ Below w.heap.size w wr) (fun _ i _ => n - (intOf i).toNat)
  case atStart => exact ⟨0, by omega, rfl, World.ownsRow_made _ _ _ (Nat.le_refl _) (by simp [maxLen]) rfl, (Below.refl _ _).alloc (Nat.le_refl _) _⟩
  case round =>
    obtain ⟨k, hk, rfl, hown, hb⟩ := hrel
    have hBs := hb.size
    have hml := memN_length s k
    have hbt := bit_test s k hs
    by_cases hlt : k < n
    · rcases hbit : ((s >>> k) &&& 1 == 1) with _ | _
      · have hT : (bits BinOp.and IntKind.i64 ((s : Int) / 2 ^ k) 1 == 1) = false := hbt.trans hbit
        have HS : Hid (memN s (k + 1) = memN s k) := by unfold Hid; rw [memN_succ, hbit]; simp
        clear hbt hbit
        go_wp2
        go_roundw
        case rel => exact ⟨k + 1, by omega, by go_num, by rw [HS.out]; exact hown, hb⟩
        case measure => simp [intOf]; omega
      · have hT : (bits BinOp.and IntKind.i64 ((s : Int) / 2 ^ k) 1 == 1) = true := hbt.trans hbit
        have HS : Hid (memN s (k + 1) = memN s k ++ [k]) := by unfold Hid; rw [memN_succ, hbit]; simp
        clear hbt hbit
        go_wp2_with (at_builtin; go_loud (refine app_int rfl _ _ 31 rfl 3 Try.underlying31 (by kernel_rfl) w.heap.size _ (nats (memN s k)) (k : Int) hown rfl rfl (by simp [nats]; omega) hBs ?_); intro v' w1 hown1 hb1)
        go_roundw
        case rel => exact ⟨k + 1, by omega, by go_num, by rw [HS.out, nats_app]; exact hown1, hb.trans hb1⟩
        case measure => simp [intOf]; omega
    · clear hbt
      go_wp2
      go_ret
      obtain rfl : k = n := by omega
      exact RetI.mk hown hb

/-- impl's RotateScale, its round: what has been gathered after k members. -/
def rotTo (s b k : Nat) : Nat := ((memN s 12).take k).foldl (rotStep b) 0
theorem rotTo_succ (s b k : Nat) (h : k < (memN s 12).length) : rotTo s b (k + 1) = rotTo s b k ||| 1 <<< (((memN s 12)[k] + b) % 12) := by
  unfold rotTo
  rw [List.take_succ_eq_append_getElem h, List.foldl_append]
  rfl
theorem rotTo_lt (s b k : Nat) : rotTo s b k < 4096 := by
  unfold rotTo
  have : ∀ (l : List Nat) (a : Nat), a < 4096 → l.foldl (rotStep b) a < 4096 := by
    intro l
    induction l with
    | nil => intro a h; exact h
    | cons x l ih =>
      intro a h
      refine ih _ ?_
      have h1 : 1 <<< ((x + b) % 12) < 2 ^ 12 := by
        rw [Nat.one_shiftLeft]
        exact Nat.pow_lt_pow_right (by omega) (Nat.mod_lt _ (by omega))
      exact Nat.or_lt_two_pow (n := 12) h h1
  exact this _ 0 (by omega)
theorem rotTo_all (s b : Nat) : rotTo s b (nats (memN s 12)).length = rotI s b := by
  unfold rotTo rotI
  rw [List.take_of_length_le (by simp [nats])]

set_option maxHeartbeats 400000 in
theorem impl_Rotate_ok (s b : Nat) (w : World) (hs : s < 4096) (hb : b < 12) :
    Calls Try.prog 64 #[.int .i64 s, .int .i64 b] w fun e w' => e = .returned (.int .i64 (rotN s b : Nat)) ∧ Below w.heap.size w w' := by
  have hs1 : (s : Int) ≤ 4095 := by omega
  have hb1 : (b : Int) ≤ 11 := by omega
  go_enter Try.func64, Try.ntmps64
  go_wp2_with (first | (go_at_call 99; refine (membersOf_any s 12 hs (by omega) _).mono ?_; rintro e w1 ⟨A, c, rfl, hown, hc, hm, hA, hrd, hbel⟩) | go_in)
  go_loop [5, 19] (fun t i => ∃ k : Nat, k ≤ (nats (memN s 12)).length ∧ i = .int .i64 k ∧ t = .int .i64 (rotTo s b k : Nat)) (fun _ i => (nats (memN s 12)).length - (intOf i).toNat)
  case atStart => exact ⟨0, by omega, rfl, rfl⟩
  case round =>
    obtain ⟨k, hk, rfl, rfl⟩ := hrel
    have hml := memN_length s 12
    have hnl : (nats (memN s 12)).length = (memN s 12).length := by simp [nats]
    by_cases hlt : k < (nats (memN s 12)).length
    · have hlt' : k < (memN s 12).length := by omega
      obtain ⟨bb, off, rfl, _, hcell⟩ := hrd (by omega)
      have hcx := hcell k hlt
      obtain ⟨x, hx⟩ : ∃ x : Nat, x = (memN s 12)[k] := ⟨_, rfl⟩
      have hgx := gt_nats (memN s 12) k hlt'
      have hx12 : x < 12 := by rw [hx]; exact memN_lt s 12 _ (List.getElem_mem _)
      rw [hgx, ← hx] at hcx
      have HS : Hid (rotTo s b (k + 1) = rotTo s b k ||| 1 <<< ((x + b) % 12)) := by unfold Hid; rw [rotTo_succ s b k hlt', ← hx]
      clear hcell hgx hx hnl
      go_wp2
      go_round
      case rel => exact ⟨k + 1, by omega, by go_num, by rw [HS.out, or_step _ _ (rotTo_lt s b k) (Nat.mod_lt _ (by omega))]⟩
      case measure => simp [intOf]; omega
    · go_wp2
      go_ret
      obtain rfl : k = (nats (memN s 12)).length := by omega
      exact ⟨ret_int (by rw [rotTo_all, rot_eq s b hs hb]), hbel⟩
theorem impl_Rotate_no (s b : Int) (w : World) (h : ¬ (0 ≤ s ∧ s ≤ 4095 ∧ 0 ≤ b ∧ b ≤ 11)) :
    Calls Try.prog 64 #[.int .i64 s, .int .i64 b] w fun e w' => e = .returned (.int .i64 (-1)) ∧ Below w.heap.size w w' := by
  by_cases h1 : 0 ≤ s
  · by_cases h2 : s ≤ 4095
    · by_cases h3 : 0 ≤ b
      · have h4 : ¬ b ≤ 11 := by omega
        go_enter Try.func64, Try.ntmps64
        go_wp2
        go_ret
        exact ⟨rfl, Below.refl _ _⟩
      · go_enter Try.func64, Try.ntmps64
        go_wp2
        go_ret
        exact ⟨rfl, Below.refl _ _⟩
    · go_enter Try.func64, Try.ntmps64
      go_wp2
      go_ret
      exact ⟨rfl, Below.refl _ _⟩
  · go_enter Try.func64, Try.ntmps64
    go_wp2
    go_ret
    exact ⟨rfl, Below.refl _ _⟩
theorem spec_Rotate_no (s b : Int) (w : World) (h : ¬ (0 ≤ s ∧ s ≤ 4095 ∧ 0 ≤ b ∧ b ≤ 11)) :
    Calls Try.prog 104 #[.int .i64 s, .int .i64 b] w fun e w' => e = .returned (.int .i64 (-1)) ∧ Below w.heap.size w w' := by
  by_cases h1 : 0 ≤ s
  · by_cases h2 : s ≤ 4095
    · by_cases h3 : 0 ≤ b
      · have h4 : ¬ b ≤ 11 := by omega
        go_enter Try.func104, Try.ntmps104
        go_wp2
        go_ret
        exact ⟨rfl, Below.refl _ _⟩
      · go_enter Try.func104, Try.ntmps104
        go_wp2
        go_ret
        exact ⟨rfl, Below.refl _ _⟩
    · go_enter Try.func104, Try.ntmps104
      go_wp2
      go_ret
      exact ⟨rfl, Below.refl _ _⟩
  · go_enter Try.func104, Try.ntmps104
    go_wp2
    go_ret
    exact ⟨rfl, Below.refl _ _⟩
theorem shl_small (s b : Nat) (hs : s < 4096) (hb : b < 12) : s <<< b < 8388608 := by
  rw [Nat.shiftLeft_eq]
  have : 2 ^ b ≤ 2 ^ 11 := Nat.pow_le_pow_right (by omega) (by omega)
  have := Nat.mul_le_mul (show s ≤ 4095 by omega) this
  omega
theorem shl_wrap (s b : Nat) (hs : s < 4096) (hb : b < 12) : wrap64 ((s : Int) * 2 ^ b) = ((s <<< b : Nat) : Int) := by
  have h1 := shl_small s b hs hb
  have h2 : ((s : Int) * 2 ^ b) = ((s <<< b : Nat) : Int) := by rw [Nat.shiftLeft_eq]; simp
  rw [h2]
  exact wrap_nat _ (by omega)
theorem spec_rot_val (s b : Nat) (hs : s < 4096) (hb : b < 12) :
    bits .or .i64 (bits .and .i64 (wrap64 ((s : Int) * 2 ^ b)) 4095) (wrap64 ((s : Int) * 2 ^ b) / 4096) = ((rotN s b : Nat) : Int) := by
  have h1 := shl_small s b hs hb
  have h2 : ((s <<< b : Nat) : Int) / (4096 : Int) = ((s <<< b >>> 12 : Nat) : Int) := by rw [Nat.shiftRight_eq_div_pow]; exact (Int.natCast_ediv _ _).symm
  have h3 : s <<< b >>> 12 ≤ s <<< b := Nat.shiftRight_le _ _
  rw [shl_wrap s b hs hb, h2, show (4095 : Int) = ((4095 : Nat) : Int) from rfl, and_nat _ _ (by omega) (by omega), or_nat _ _ (by have := Nat.and_le_left (n := s <<< b) (m := 4095); omega) (by omega)]
  rfl

theorem spec_Rotate_ok (s b : Nat) (w : World) (hs : s < 4096) (hb : b < 12) :
    Calls Try.prog 104 #[.int .i64 s, .int .i64 b] w fun e w' => e = .returned (.int .i64 (rotN s b : Nat)) ∧ Below w.heap.size w w' := by
  have hs1 : (s : Int) ≤ 4095 := by omega
  have hb1 : (b : Int) ≤ 11 := by omega
  go_enter Try.func104, Try.ntmps104
  go_wp2
  go_ret
  exact ⟨ret_int (by exact spec_rot_val s b hs hb), Below.refl _ _⟩

/-- What both return. -/
def rotZ (s b : Int) : Int := if 0 ≤ s ∧ s ≤ 4095 ∧ 0 ≤ b ∧ b ≤ 11 then (rotN s.toNat b.toNat : Nat) else -1
theorem impl_Rotate (s b : Int) (w : World) :
    Calls Try.prog 64 #[.int .i64 s, .int .i64 b] w fun e w' => e = .returned (.int .i64 (rotZ s b)) ∧ Below w.heap.size w w' := by
  unfold rotZ
  by_cases h : 0 ≤ s ∧ s ≤ 4095 ∧ 0 ≤ b ∧ b ≤ 11
  · rw [if_pos h]
    obtain ⟨n, rfl⟩ := Int.eq_ofNat_of_zero_le h.1
    obtain ⟨m, rfl⟩ := Int.eq_ofNat_of_zero_le h.2.2.1
    exact impl_Rotate_ok n m w (by omega) (by omega)
  · rw [if_neg h]
    exact impl_Rotate_no s b w h
theorem spec_Rotate (s b : Int) (w : World) :
    Calls Try.prog 104 #[.int .i64 s, .int .i64 b] w fun e w' => e = .returned (.int .i64 (rotZ s b)) ∧ Below w.heap.size w w' := by
  unfold rotZ
  by_cases h : 0 ≤ s ∧ s ≤ 4095 ∧ 0 ≤ b ∧ b ≤ 11
  · rw [if_pos h]
    obtain ⟨n, rfl⟩ := Int.eq_ofNat_of_zero_le h.1
    obtain ⟨m, rfl⟩ := Int.eq_ofNat_of_zero_le h.2.2.1
    exact spec_Rotate_ok n m w (by omega) (by omega)
  · rw [if_neg h]
    exact spec_Rotate_no s b w h
end Go.Proofs.Ytjfaodbjmanfnaa
