/- impl.sorted: the notes in order, each once. -/
import Derived.Test.YtajlopigpppeaaaCmp
import Derived.Test.YtajlopigpppeaaaCompact
import Derived.Test.YtajlopigpppeaaaPart
import Derived.Test.YtajlopigpppeaaaShelfS
namespace Go.Proofs.Ytajlopigpppeaaa
open Go.ChangeShapes Go.WideShapes Go.ChangeAt Go.RowKit Go.Sort
set_option linter.unusedVariables false
theorem copyNotes_g (A : Option Addr) (c : Nat) (l : List (Int × Int)) (w : World) (hrd : RdN w A l) (hl : l.length ≤ 1000000000) (hA : A = none → c = 0) :
    Calls Try.prog 54 #[.slice A l.length c] w fun en w' => ∃ g c', en = .returned (.slice (some ⟨g, 0, none⟩) l.length c') ∧ OwnN 42 w.heap.size w' (.slice (some ⟨g, 0, none⟩) l.length c') l ∧ Below w.heap.size w w' := by
  by_cases h0 : l = []
  · subst h0
    obtain ⟨i, hi, hz, hsz, hby⟩ := info_parts (show (Try.prog.info? 42).map (fun i => (i.zero, i.size, i.bytes)) = some (some (.agg #[.int .i64 0, .int .i64 0]), 2, 16) by kernel_rfl)
    have hown := OwnN.lit0 w 42
    have hb0 : Below w.heap.size w (w.alloc (.cells #[] 42)) := (Below.refl _ _).alloc (Nat.le_refl _) _
    rw [List.length_nil]
    go_enter Try.func54, Try.ntmps54
    go_wp2_with (at_builtin; refine wpList_append_fits_any _ rfl _ _ 26 rfl w.heap.size 42 i 2 Try.underlying26 hi hsz w.heap.size 0 0 [] rfl hown A 0 c [] rfl rfl (fun h => ⟨rfl, hA h⟩) (by simp) (by simp) (by omega) ?_; intro w1 hown1 hg1)
    go_ret
    exact ⟨w.heap.size, 0, rfl, hown1, hb0.grown hg1 (by simp) (fun k hk => by injection hk with hk; omega)⟩
  · refine (copyNotes_any A c l w hrd hl hA).mono ?_
    rintro e w' ⟨A', c', rfl, ho, h1, h2, h3, h4, hb⟩
    have hpos : 0 < l.length := by cases l with | nil => exact absurd rfl h0 | cons x l => simp
    obtain ⟨g, rfl, _⟩ := ho.head hpos
    exact ⟨g, c', rfl, ho, hb⟩
theorem sort_any (B g c : Nat) (l : List (Int × Int)) (w : World) (hown : OwnN 42 B w (.slice (some ⟨g, 0, none⟩) l.length c) l) (hl : l.length ≤ 1000000) :
    Calls Try.prog 91 #[.slice (some ⟨g, 0, none⟩) l.length c, .func (.func 83) #[] #[]] w fun en w' => en = .returned (.tuple #[]) ∧
      ∃ D : List (Int × Int), D.length = l.length ∧ (∀ x, x ∈ D ↔ x ∈ l) ∧ (∀ i j, i < j → j < D.length → ltN (D.getD j (0, 0)) (D.getD i (0, 0)) = false) ∧
        OwnN 42 B w' (.slice (some ⟨g, 0, none⟩) l.length c) D ∧ w.grownBy w' (some g) := by
  have hblk : g < w.heap.size := (hown.lt g rfl).2
  have hS := AnyQ.slices_SortFunc Try.laysSort 2 Try.isAgg42 Try.sizeOf42 encN (fun _ => rfl) (fun x v hv => by simp [encN] at hv; rcases hv with rfl | rfl <;> rfl) cmpN cmpN_swo 83 #[] g 0 c l.toArray w
    (enters_of Try.func83 (by kernel_rfl) rfl) (fun m os dk _ x y => cmp_grow x y _) hown.holdsK hblk (by simp; omega)
  refine Calls.mono hS ?_
  rintro e w' ⟨rfl, d', n, os, hp, hs, rfl⟩
  have hsz : d'.size = l.length := hp.1
  have hlen : d'.toList.length = l.length := by simpa using hsz
  refine ⟨rfl, d'.toList, hlen, fun x => ?_, fun i j hij hj => ?_, ?_⟩
  · have h3 := hp.2.2
    have e1 : d'.extract 0 l.toArray.size = d' := by rw [show l.toArray.size = d'.size by simp [hsz]]; exact Array.extract_size
    have e2 : l.toArray.extract 0 l.toArray.size = l.toArray := Array.extract_size
    rw [e1, e2] at h3
    exact h3.mem_iff
  · have h3 := hs i j (Nat.zero_le _) hij (by simp at hj ⊢; omega)
    rw [cmpN_lt] at h3
    have hj' : j < d'.size := by simpa using hj
    have hi' : i < d'.size := by omega
    simpa [List.getD, hj', hi'] using h3
  · have h4 := hown.sorted (m := n) (os := os) hlen
    exact h4
attribute [local irreducible] srt cpZ in
theorem sorted_any (A : Option Addr) (c : Nat) (l : List (Int × Int)) (w : World) (hrd : RdN w A l) (hl : l.length ≤ 1000000) (hA : A = none → c = 0) :
    Calls Try.prog 67 #[.slice A l.length c] w (RetN 42 w.heap.size (srt l) w) := by
  go_enter Try.func67, Try.ntmps67
  go_wp2_with fail
  refine (copyNotes_g A c l w hrd (by omega) hA).mono ?_
  rintro e w1 ⟨g, c1, rfl, ho1, hb1⟩
  go_wp2_with fail
  refine (sort_any _ g c1 l w1 ho1 hl).mono ?_
  rintro e w2 ⟨rfl, D, hDl, hmem, hsrt, ho2, hg2⟩
  have hgb := (ho1.lt g rfl).1
  have hsz1 := hb1.1
  rw [← hDl] at ho2
  have hE : cpZ D D.length = srt l := by
    have h1 := cpZ_srt hsrt D.length (Nat.le_refl _)
    rw [List.take_length] at h1
    exact (isSrt.perm h1 hmem).uniq (srt_srt l)
  go_wp2_with fail
  rw [← hDl]
  refine (compact_any _ g c1 D w2 ho2 (by omega)).mono ?_
  rintro e w3 ⟨rfl, ho3, hg3⟩
  rw [hE] at ho3 ⊢
  have hb3 : Below w.heap.size w w3 := hb1.grown (grown_trans hg2 hg3) hb1.size (fun k hk => by injection hk with hk; omega)
  go_wp2
  go_ret
  exact RetN.mk ho3 hb3
end Go.Proofs.Ytajlopigpppeaaa
