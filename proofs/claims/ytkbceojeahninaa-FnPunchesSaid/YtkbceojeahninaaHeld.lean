/- Cells that a region loads next to calls that make memory, held: three to ten of them. No function here. -/
import Derived.Test.YtkbceojeahninaaBase
namespace Go.Proofs.Ytkbceojeahninaa
open Go.ChangeShapes Go.WideShapes Go.ChangeAt Go.RowKit
set_option linter.unusedVariables false
theorem hd2_start {w v : World} {p1 p2 : Addr} {u1 u2 : Value} (h1 : w.cell? p1 = some u1) (h2 : w.cell? p2 = some u2) (hv : v = w.drew) :
    v.cell? p1 = some u1 ∧ v.cell? p2 = some u2 ∧ Below w.heap.size w v := by
  subst hv
  exact ⟨h1, h2, (Below.refl _ _).drew⟩
theorem hd2_keep {w v u : World} {p1 p2 : Addr} {u1 u2 : Value} (l1 : p1.block < w.heap.size) (l2 : p2.block < w.heap.size)
    (h : v.cell? p1 = some u1 ∧ v.cell? p2 = some u2 ∧ Below w.heap.size w v) (hb : Below v.heap.size v u) :
    u.cell? p1 = some u1 ∧ u.cell? p2 = some u2 ∧ Below w.heap.size w u := by
  obtain ⟨h1, h2, h0⟩ := h
  have hs := h0.size
  exact ⟨(hb.cell (by omega)).trans h1, (hb.cell (by omega)).trans h2, h0.trans (hb.mono hs)⟩
theorem hd2_bel {w v : World} {p1 p2 : Addr} {u1 u2 : Value}
    (h : v.cell? p1 = some u1 ∧ v.cell? p2 = some u2 ∧ Below w.heap.size w v) : Below w.heap.size w v := h.2.2
theorem hd3_start {w v : World} {p1 p2 p3 : Addr} {u1 u2 u3 : Value} (h1 : w.cell? p1 = some u1) (h2 : w.cell? p2 = some u2) (h3 : w.cell? p3 = some u3) (hv : v = w.drew) :
    v.cell? p1 = some u1 ∧ v.cell? p2 = some u2 ∧ v.cell? p3 = some u3 ∧ Below w.heap.size w v := by
  subst hv
  exact ⟨h1, h2, h3, (Below.refl _ _).drew⟩
theorem hd3_keep {w v u : World} {p1 p2 p3 : Addr} {u1 u2 u3 : Value} (l1 : p1.block < w.heap.size) (l2 : p2.block < w.heap.size) (l3 : p3.block < w.heap.size)
    (h : v.cell? p1 = some u1 ∧ v.cell? p2 = some u2 ∧ v.cell? p3 = some u3 ∧ Below w.heap.size w v) (hb : Below v.heap.size v u) :
    u.cell? p1 = some u1 ∧ u.cell? p2 = some u2 ∧ u.cell? p3 = some u3 ∧ Below w.heap.size w u := by
  obtain ⟨h1, h2, h3, h0⟩ := h
  have hs := h0.size
  exact ⟨(hb.cell (by omega)).trans h1, (hb.cell (by omega)).trans h2, (hb.cell (by omega)).trans h3, h0.trans (hb.mono hs)⟩
theorem hd3_bel {w v : World} {p1 p2 p3 : Addr} {u1 u2 u3 : Value}
    (h : v.cell? p1 = some u1 ∧ v.cell? p2 = some u2 ∧ v.cell? p3 = some u3 ∧ Below w.heap.size w v) : Below w.heap.size w v := h.2.2.2
theorem hd4_start {w v : World} {p1 p2 p3 p4 : Addr} {u1 u2 u3 u4 : Value} (h1 : w.cell? p1 = some u1) (h2 : w.cell? p2 = some u2) (h3 : w.cell? p3 = some u3) (h4 : w.cell? p4 = some u4) (hv : v = w.drew) :
    v.cell? p1 = some u1 ∧ v.cell? p2 = some u2 ∧ v.cell? p3 = some u3 ∧ v.cell? p4 = some u4 ∧ Below w.heap.size w v := by
  subst hv
  exact ⟨h1, h2, h3, h4, (Below.refl _ _).drew⟩
theorem hd4_keep {w v u : World} {p1 p2 p3 p4 : Addr} {u1 u2 u3 u4 : Value} (l1 : p1.block < w.heap.size) (l2 : p2.block < w.heap.size) (l3 : p3.block < w.heap.size) (l4 : p4.block < w.heap.size)
    (h : v.cell? p1 = some u1 ∧ v.cell? p2 = some u2 ∧ v.cell? p3 = some u3 ∧ v.cell? p4 = some u4 ∧ Below w.heap.size w v) (hb : Below v.heap.size v u) :
    u.cell? p1 = some u1 ∧ u.cell? p2 = some u2 ∧ u.cell? p3 = some u3 ∧ u.cell? p4 = some u4 ∧ Below w.heap.size w u := by
  obtain ⟨h1, h2, h3, h4, h0⟩ := h
  have hs := h0.size
  exact ⟨(hb.cell (by omega)).trans h1, (hb.cell (by omega)).trans h2, (hb.cell (by omega)).trans h3, (hb.cell (by omega)).trans h4, h0.trans (hb.mono hs)⟩
theorem hd4_bel {w v : World} {p1 p2 p3 p4 : Addr} {u1 u2 u3 u4 : Value}
    (h : v.cell? p1 = some u1 ∧ v.cell? p2 = some u2 ∧ v.cell? p3 = some u3 ∧ v.cell? p4 = some u4 ∧ Below w.heap.size w v) : Below w.heap.size w v := h.2.2.2.2
theorem hd5_start {w v : World} {p1 p2 p3 p4 p5 : Addr} {u1 u2 u3 u4 u5 : Value} (h1 : w.cell? p1 = some u1) (h2 : w.cell? p2 = some u2) (h3 : w.cell? p3 = some u3) (h4 : w.cell? p4 = some u4) (h5 : w.cell? p5 = some u5) (hv : v = w.drew) :
    v.cell? p1 = some u1 ∧ v.cell? p2 = some u2 ∧ v.cell? p3 = some u3 ∧ v.cell? p4 = some u4 ∧ v.cell? p5 = some u5 ∧ Below w.heap.size w v := by
  subst hv
  exact ⟨h1, h2, h3, h4, h5, (Below.refl _ _).drew⟩
theorem hd5_keep {w v u : World} {p1 p2 p3 p4 p5 : Addr} {u1 u2 u3 u4 u5 : Value} (l1 : p1.block < w.heap.size) (l2 : p2.block < w.heap.size) (l3 : p3.block < w.heap.size) (l4 : p4.block < w.heap.size) (l5 : p5.block < w.heap.size)
    (h : v.cell? p1 = some u1 ∧ v.cell? p2 = some u2 ∧ v.cell? p3 = some u3 ∧ v.cell? p4 = some u4 ∧ v.cell? p5 = some u5 ∧ Below w.heap.size w v) (hb : Below v.heap.size v u) :
    u.cell? p1 = some u1 ∧ u.cell? p2 = some u2 ∧ u.cell? p3 = some u3 ∧ u.cell? p4 = some u4 ∧ u.cell? p5 = some u5 ∧ Below w.heap.size w u := by
  obtain ⟨h1, h2, h3, h4, h5, h0⟩ := h
  have hs := h0.size
  exact ⟨(hb.cell (by omega)).trans h1, (hb.cell (by omega)).trans h2, (hb.cell (by omega)).trans h3, (hb.cell (by omega)).trans h4, (hb.cell (by omega)).trans h5, h0.trans (hb.mono hs)⟩
theorem hd5_bel {w v : World} {p1 p2 p3 p4 p5 : Addr} {u1 u2 u3 u4 u5 : Value}
    (h : v.cell? p1 = some u1 ∧ v.cell? p2 = some u2 ∧ v.cell? p3 = some u3 ∧ v.cell? p4 = some u4 ∧ v.cell? p5 = some u5 ∧ Below w.heap.size w v) : Below w.heap.size w v := h.2.2.2.2.2
theorem hd6_start {w v : World} {p1 p2 p3 p4 p5 p6 : Addr} {u1 u2 u3 u4 u5 u6 : Value} (h1 : w.cell? p1 = some u1) (h2 : w.cell? p2 = some u2) (h3 : w.cell? p3 = some u3) (h4 : w.cell? p4 = some u4) (h5 : w.cell? p5 = some u5) (h6 : w.cell? p6 = some u6) (hv : v = w.drew) :
    v.cell? p1 = some u1 ∧ v.cell? p2 = some u2 ∧ v.cell? p3 = some u3 ∧ v.cell? p4 = some u4 ∧ v.cell? p5 = some u5 ∧ v.cell? p6 = some u6 ∧ Below w.heap.size w v := by
  subst hv
  exact ⟨h1, h2, h3, h4, h5, h6, (Below.refl _ _).drew⟩
theorem hd6_keep {w v u : World} {p1 p2 p3 p4 p5 p6 : Addr} {u1 u2 u3 u4 u5 u6 : Value} (l1 : p1.block < w.heap.size) (l2 : p2.block < w.heap.size) (l3 : p3.block < w.heap.size) (l4 : p4.block < w.heap.size) (l5 : p5.block < w.heap.size) (l6 : p6.block < w.heap.size)
    (h : v.cell? p1 = some u1 ∧ v.cell? p2 = some u2 ∧ v.cell? p3 = some u3 ∧ v.cell? p4 = some u4 ∧ v.cell? p5 = some u5 ∧ v.cell? p6 = some u6 ∧ Below w.heap.size w v) (hb : Below v.heap.size v u) :
    u.cell? p1 = some u1 ∧ u.cell? p2 = some u2 ∧ u.cell? p3 = some u3 ∧ u.cell? p4 = some u4 ∧ u.cell? p5 = some u5 ∧ u.cell? p6 = some u6 ∧ Below w.heap.size w u := by
  obtain ⟨h1, h2, h3, h4, h5, h6, h0⟩ := h
  have hs := h0.size
  exact ⟨(hb.cell (by omega)).trans h1, (hb.cell (by omega)).trans h2, (hb.cell (by omega)).trans h3, (hb.cell (by omega)).trans h4, (hb.cell (by omega)).trans h5, (hb.cell (by omega)).trans h6, h0.trans (hb.mono hs)⟩
theorem hd6_bel {w v : World} {p1 p2 p3 p4 p5 p6 : Addr} {u1 u2 u3 u4 u5 u6 : Value}
    (h : v.cell? p1 = some u1 ∧ v.cell? p2 = some u2 ∧ v.cell? p3 = some u3 ∧ v.cell? p4 = some u4 ∧ v.cell? p5 = some u5 ∧ v.cell? p6 = some u6 ∧ Below w.heap.size w v) : Below w.heap.size w v := h.2.2.2.2.2.2
theorem hd8_start {w v : World} {p1 p2 p3 p4 p5 p6 p7 p8 : Addr} {u1 u2 u3 u4 u5 u6 u7 u8 : Value} (h1 : w.cell? p1 = some u1) (h2 : w.cell? p2 = some u2) (h3 : w.cell? p3 = some u3) (h4 : w.cell? p4 = some u4) (h5 : w.cell? p5 = some u5) (h6 : w.cell? p6 = some u6) (h7 : w.cell? p7 = some u7) (h8 : w.cell? p8 = some u8) (hv : v = w.drew) :
    v.cell? p1 = some u1 ∧ v.cell? p2 = some u2 ∧ v.cell? p3 = some u3 ∧ v.cell? p4 = some u4 ∧ v.cell? p5 = some u5 ∧ v.cell? p6 = some u6 ∧ v.cell? p7 = some u7 ∧ v.cell? p8 = some u8 ∧ Below w.heap.size w v := by
  subst hv
  exact ⟨h1, h2, h3, h4, h5, h6, h7, h8, (Below.refl _ _).drew⟩
theorem hd8_keep {w v u : World} {p1 p2 p3 p4 p5 p6 p7 p8 : Addr} {u1 u2 u3 u4 u5 u6 u7 u8 : Value} (l1 : p1.block < w.heap.size) (l2 : p2.block < w.heap.size) (l3 : p3.block < w.heap.size) (l4 : p4.block < w.heap.size) (l5 : p5.block < w.heap.size) (l6 : p6.block < w.heap.size) (l7 : p7.block < w.heap.size) (l8 : p8.block < w.heap.size)
    (h : v.cell? p1 = some u1 ∧ v.cell? p2 = some u2 ∧ v.cell? p3 = some u3 ∧ v.cell? p4 = some u4 ∧ v.cell? p5 = some u5 ∧ v.cell? p6 = some u6 ∧ v.cell? p7 = some u7 ∧ v.cell? p8 = some u8 ∧ Below w.heap.size w v) (hb : Below v.heap.size v u) :
    u.cell? p1 = some u1 ∧ u.cell? p2 = some u2 ∧ u.cell? p3 = some u3 ∧ u.cell? p4 = some u4 ∧ u.cell? p5 = some u5 ∧ u.cell? p6 = some u6 ∧ u.cell? p7 = some u7 ∧ u.cell? p8 = some u8 ∧ Below w.heap.size w u := by
  obtain ⟨h1, h2, h3, h4, h5, h6, h7, h8, h0⟩ := h
  have hs := h0.size
  exact ⟨(hb.cell (by omega)).trans h1, (hb.cell (by omega)).trans h2, (hb.cell (by omega)).trans h3, (hb.cell (by omega)).trans h4, (hb.cell (by omega)).trans h5, (hb.cell (by omega)).trans h6, (hb.cell (by omega)).trans h7, (hb.cell (by omega)).trans h8, h0.trans (hb.mono hs)⟩
theorem hd8_bel {w v : World} {p1 p2 p3 p4 p5 p6 p7 p8 : Addr} {u1 u2 u3 u4 u5 u6 u7 u8 : Value}
    (h : v.cell? p1 = some u1 ∧ v.cell? p2 = some u2 ∧ v.cell? p3 = some u3 ∧ v.cell? p4 = some u4 ∧ v.cell? p5 = some u5 ∧ v.cell? p6 = some u6 ∧ v.cell? p7 = some u7 ∧ v.cell? p8 = some u8 ∧ Below w.heap.size w v) : Below w.heap.size w v := h.2.2.2.2.2.2.2.2
theorem hd9_start {w v : World} {p1 p2 p3 p4 p5 p6 p7 p8 p9 : Addr} {u1 u2 u3 u4 u5 u6 u7 u8 u9 : Value} (h1 : w.cell? p1 = some u1) (h2 : w.cell? p2 = some u2) (h3 : w.cell? p3 = some u3) (h4 : w.cell? p4 = some u4) (h5 : w.cell? p5 = some u5) (h6 : w.cell? p6 = some u6) (h7 : w.cell? p7 = some u7) (h8 : w.cell? p8 = some u8) (h9 : w.cell? p9 = some u9) (hv : v = w.drew) :
    v.cell? p1 = some u1 ∧ v.cell? p2 = some u2 ∧ v.cell? p3 = some u3 ∧ v.cell? p4 = some u4 ∧ v.cell? p5 = some u5 ∧ v.cell? p6 = some u6 ∧ v.cell? p7 = some u7 ∧ v.cell? p8 = some u8 ∧ v.cell? p9 = some u9 ∧ Below w.heap.size w v := by
  subst hv
  exact ⟨h1, h2, h3, h4, h5, h6, h7, h8, h9, (Below.refl _ _).drew⟩
theorem hd9_keep {w v u : World} {p1 p2 p3 p4 p5 p6 p7 p8 p9 : Addr} {u1 u2 u3 u4 u5 u6 u7 u8 u9 : Value} (l1 : p1.block < w.heap.size) (l2 : p2.block < w.heap.size) (l3 : p3.block < w.heap.size) (l4 : p4.block < w.heap.size) (l5 : p5.block < w.heap.size) (l6 : p6.block < w.heap.size) (l7 : p7.block < w.heap.size) (l8 : p8.block < w.heap.size) (l9 : p9.block < w.heap.size)
    (h : v.cell? p1 = some u1 ∧ v.cell? p2 = some u2 ∧ v.cell? p3 = some u3 ∧ v.cell? p4 = some u4 ∧ v.cell? p5 = some u5 ∧ v.cell? p6 = some u6 ∧ v.cell? p7 = some u7 ∧ v.cell? p8 = some u8 ∧ v.cell? p9 = some u9 ∧ Below w.heap.size w v) (hb : Below v.heap.size v u) :
    u.cell? p1 = some u1 ∧ u.cell? p2 = some u2 ∧ u.cell? p3 = some u3 ∧ u.cell? p4 = some u4 ∧ u.cell? p5 = some u5 ∧ u.cell? p6 = some u6 ∧ u.cell? p7 = some u7 ∧ u.cell? p8 = some u8 ∧ u.cell? p9 = some u9 ∧ Below w.heap.size w u := by
  obtain ⟨h1, h2, h3, h4, h5, h6, h7, h8, h9, h0⟩ := h
  have hs := h0.size
  exact ⟨(hb.cell (by omega)).trans h1, (hb.cell (by omega)).trans h2, (hb.cell (by omega)).trans h3, (hb.cell (by omega)).trans h4, (hb.cell (by omega)).trans h5, (hb.cell (by omega)).trans h6, (hb.cell (by omega)).trans h7, (hb.cell (by omega)).trans h8, (hb.cell (by omega)).trans h9, h0.trans (hb.mono hs)⟩
theorem hd9_bel {w v : World} {p1 p2 p3 p4 p5 p6 p7 p8 p9 : Addr} {u1 u2 u3 u4 u5 u6 u7 u8 u9 : Value}
    (h : v.cell? p1 = some u1 ∧ v.cell? p2 = some u2 ∧ v.cell? p3 = some u3 ∧ v.cell? p4 = some u4 ∧ v.cell? p5 = some u5 ∧ v.cell? p6 = some u6 ∧ v.cell? p7 = some u7 ∧ v.cell? p8 = some u8 ∧ v.cell? p9 = some u9 ∧ Below w.heap.size w v) : Below w.heap.size w v := h.2.2.2.2.2.2.2.2.2
theorem hd10_start {w v : World} {p1 p2 p3 p4 p5 p6 p7 p8 p9 p10 : Addr} {u1 u2 u3 u4 u5 u6 u7 u8 u9 u10 : Value} (h1 : w.cell? p1 = some u1) (h2 : w.cell? p2 = some u2) (h3 : w.cell? p3 = some u3) (h4 : w.cell? p4 = some u4) (h5 : w.cell? p5 = some u5) (h6 : w.cell? p6 = some u6) (h7 : w.cell? p7 = some u7) (h8 : w.cell? p8 = some u8) (h9 : w.cell? p9 = some u9) (h10 : w.cell? p10 = some u10) (hv : v = w.drew) :
    v.cell? p1 = some u1 ∧ v.cell? p2 = some u2 ∧ v.cell? p3 = some u3 ∧ v.cell? p4 = some u4 ∧ v.cell? p5 = some u5 ∧ v.cell? p6 = some u6 ∧ v.cell? p7 = some u7 ∧ v.cell? p8 = some u8 ∧ v.cell? p9 = some u9 ∧ v.cell? p10 = some u10 ∧ Below w.heap.size w v := by
  subst hv
  exact ⟨h1, h2, h3, h4, h5, h6, h7, h8, h9, h10, (Below.refl _ _).drew⟩
theorem hd10_keep {w v u : World} {p1 p2 p3 p4 p5 p6 p7 p8 p9 p10 : Addr} {u1 u2 u3 u4 u5 u6 u7 u8 u9 u10 : Value} (l1 : p1.block < w.heap.size) (l2 : p2.block < w.heap.size) (l3 : p3.block < w.heap.size) (l4 : p4.block < w.heap.size) (l5 : p5.block < w.heap.size) (l6 : p6.block < w.heap.size) (l7 : p7.block < w.heap.size) (l8 : p8.block < w.heap.size) (l9 : p9.block < w.heap.size) (l10 : p10.block < w.heap.size)
    (h : v.cell? p1 = some u1 ∧ v.cell? p2 = some u2 ∧ v.cell? p3 = some u3 ∧ v.cell? p4 = some u4 ∧ v.cell? p5 = some u5 ∧ v.cell? p6 = some u6 ∧ v.cell? p7 = some u7 ∧ v.cell? p8 = some u8 ∧ v.cell? p9 = some u9 ∧ v.cell? p10 = some u10 ∧ Below w.heap.size w v) (hb : Below v.heap.size v u) :
    u.cell? p1 = some u1 ∧ u.cell? p2 = some u2 ∧ u.cell? p3 = some u3 ∧ u.cell? p4 = some u4 ∧ u.cell? p5 = some u5 ∧ u.cell? p6 = some u6 ∧ u.cell? p7 = some u7 ∧ u.cell? p8 = some u8 ∧ u.cell? p9 = some u9 ∧ u.cell? p10 = some u10 ∧ Below w.heap.size w u := by
  obtain ⟨h1, h2, h3, h4, h5, h6, h7, h8, h9, h10, h0⟩ := h
  have hs := h0.size
  exact ⟨(hb.cell (by omega)).trans h1, (hb.cell (by omega)).trans h2, (hb.cell (by omega)).trans h3, (hb.cell (by omega)).trans h4, (hb.cell (by omega)).trans h5, (hb.cell (by omega)).trans h6, (hb.cell (by omega)).trans h7, (hb.cell (by omega)).trans h8, (hb.cell (by omega)).trans h9, (hb.cell (by omega)).trans h10, h0.trans (hb.mono hs)⟩
theorem hd10_bel {w v : World} {p1 p2 p3 p4 p5 p6 p7 p8 p9 p10 : Addr} {u1 u2 u3 u4 u5 u6 u7 u8 u9 u10 : Value}
    (h : v.cell? p1 = some u1 ∧ v.cell? p2 = some u2 ∧ v.cell? p3 = some u3 ∧ v.cell? p4 = some u4 ∧ v.cell? p5 = some u5 ∧ v.cell? p6 = some u6 ∧ v.cell? p7 = some u7 ∧ v.cell? p8 = some u8 ∧ v.cell? p9 = some u9 ∧ v.cell? p10 = some u10 ∧ Below w.heap.size w v) : Below w.heap.size w v := h.2.2.2.2.2.2.2.2.2.2
end Go.Proofs.Ytkbceojeahninaa
