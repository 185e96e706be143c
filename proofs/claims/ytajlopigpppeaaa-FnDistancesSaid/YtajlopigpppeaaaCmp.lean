/- compareNotes, as the library's sort wants it: a number for two notes, and two blocks laid. -/
import Derived.Test.YtajlopigpppeaaaSrt
import Derived.Test.YtajlopigpppeaaaRows
import Derived.Sort.Grow
import Derived.Shelf.SlSortCmp.WholeK
namespace Go.Proofs.Ytajlopigpppeaaa
open Go.ChangeShapes Go.WideShapes Go.ChangeAt Go.RowKit Go.Sort Go.Lib
set_option linter.unusedVariables false
def cmpN (x y : Int × Int) : Int := if ltN x y = true then -1 else if x = y then 0 else 1
theorem cmpN_lt (x y : Int × Int) : ltOf cmpN x y = ltN x y := by
  unfold ltOf cmpN
  cases h : ltN x y
  · rw [if_neg (by simp)]; split <;> simp
  · rw [if_pos rfl]; simp
theorem cmpN_swo : SWO (ltOf cmpN) where
  irrefl x := by rw [cmpN_lt]; exact ltN_irr x
  trans x y z h1 h2 := by rw [cmpN_lt] at *; exact ltN_trans h1 h2
  ntrans x y z h1 h2 := by
    rw [cmpN_lt] at *
    cases h3 : ltN x z
    · rfl
    · rw [Bool.eq_false_iff, ne_eq, ltN_iff] at h1 h2
      rw [ltN_iff] at h3
      omega
theorem cmp_grow (x y : Int × Int) (W : World) : Calls Try.prog 83 #[.agg #[.int .i64 x.1, .int .i64 x.2], .agg #[.int .i64 y.1, .int .i64 y.2]] W fun e w' => e = .returned (.int .i64 (cmpN x y)) ∧ ∃ q os', w' = grow (W.drewN q) os' := by
  obtain ⟨a, b⟩ := x
  obtain ⟨c, d⟩ := y
  by_cases h1 : a < c
  · have HV := Lib.hid (show cmpN (a, b) (c, d) = -1 by unfold cmpN; rw [if_pos (ltN_iff.2 (Or.inl h1))])
    go_enter Try.func83, Try.ntmps83
    go_wp2
    all_goals (go_ret; exact ⟨ret_int HV.out.symm, 0, _, by rw [alloc_eq_grow, alloc_eq_grow, grow_grow]; rfl⟩)
  · by_cases h2 : a = c
    · subst h2
      by_cases h3 : b < d
      · have hl : ltN (a, b) (a, d) = true := ltN_iff.2 (Or.inr ⟨rfl, h3⟩)
        have HV := Lib.hid (show cmpN (a, b) (a, d) = -1 by unfold cmpN; rw [if_pos hl])
        go_enter Try.func83, Try.ntmps83
        go_wp2
        all_goals (go_ret; exact ⟨ret_int HV.out.symm, 0, _, by rw [alloc_eq_grow, alloc_eq_grow, grow_grow]; rfl⟩)
      · have hl : ¬ ltN (a, b) (a, d) = true := by rw [ltN_iff]; simp; omega
        by_cases h4 : b = d
        · subst h4
          have HV := Lib.hid (show cmpN (a, b) (a, b) = 0 by unfold cmpN; rw [if_neg hl, if_pos rfl])
          go_enter Try.func83, Try.ntmps83
          go_wp2
          all_goals (go_ret; exact ⟨ret_int HV.out.symm, 0, _, by rw [alloc_eq_grow, alloc_eq_grow, grow_grow]; rfl⟩)
        · have HV := Lib.hid (show cmpN (a, b) (a, d) = 1 by unfold cmpN; rw [if_neg hl, if_neg (by simp; exact h4)])
          go_enter Try.func83, Try.ntmps83
          go_wp2
          all_goals (go_ret; exact ⟨ret_int HV.out.symm, 0, _, by rw [alloc_eq_grow, alloc_eq_grow, grow_grow]; rfl⟩)
    · have hl : ¬ ltN (a, b) (c, d) = true := by rw [ltN_iff]; simp; omega
      have HV := Lib.hid (show cmpN (a, b) (c, d) = 1 by unfold cmpN; rw [if_neg hl, if_neg (by simp; intro e; exact absurd e h2)])
      go_enter Try.func83, Try.ntmps83
      go_wp2
      all_goals (go_ret; exact ⟨ret_int HV.out.symm, 0, _, by rw [alloc_eq_grow, alloc_eq_grow, grow_grow]; rfl⟩)
end Go.Proofs.Ytajlopigpppeaaa
