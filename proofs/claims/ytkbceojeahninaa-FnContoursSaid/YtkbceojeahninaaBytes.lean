/- Slices of bytes that the call owns, append of a byte, and the string made of them. No function of the program here. -/
import Derived.Test.YtkbceojeahninaaBase
import Derived.Laws.BytesString
import Derived.Laws.Concat
namespace Go.Proofs.Ytkbceojeahninaa
open Go.ChangeShapes Go.WideShapes Go.ChangeAt Go.RowKit
set_option linter.unusedVariables false
def bytes (l : List UInt8) : List Value := l.map fun c => Value.int .u8 (c.toNat : Int)
def OwnB (e B : Nat) (w : World) (v : Value) (l : List UInt8) : Prop := w.ownsRow B e 1 v l.length (bytes l)
/-- A string of a list. -/
def mkS (l : List UInt8) : ByteArray := ⟨l.toArray⟩
theorem mkS_size (l : List UInt8) : (mkS l).size = l.length := rfl
theorem mkS_snoc (l : List UInt8) (c : UInt8) : mkS l ++ ⟨#[c]⟩ = mkS (l ++ [c]) := by
  unfold mkS
  exact ByteArray.mk_append_mk l [c]
theorem mkS_toList (s : ByteArray) : mkS s.data.toList = s := by
  unfold mkS
  apply ByteArray.ext
  simp
theorem OwnB.lit0 (w : World) (e : TypeId) : OwnB e w.heap.size (w.alloc (.cells #[] e)) (.slice (some ⟨w.heap.size, 0, none⟩) 0 0) [] := World.ownsRow_made w #[] 0 (Nat.le_refl _) (by simp [maxLen]) rfl
theorem OwnB.blk {e B : Nat} {w : World} {v : Value} {L : List UInt8} (h : OwnB e B w v L) : ∀ k, v.ownBlock = some k → B ≤ k ∧ k < w.heap.size := World.ownsRow.lt h
theorem bytes_app (l m : List UInt8) : bytes (l ++ m) = bytes l ++ bytes m := by simp [bytes]
theorem bytes_length (l : List UInt8) : (bytes l).length = l.length := by simp [bytes]
section
variable {P : Program} {ops : Array Oper} {rest : List Oper} {o : Oper} {a : Act} {Q : Exit → Act → World → Prop} {W : World}
/-- append(l, y) of a byte; y as the walk writes it. -/
theorem app_byte (hgd : o.guard = none) (s x : Operand) (t : TypeId) (ho : o.op = .call { callee := .builtin .append, args := #[s, x], argTypes := #[t, t] })
    (e : TypeId) (ht : P.underlying t = some (.slice e)) (hI : (P.info? e).map (fun i => (i.zero, i.size, i.bytes)) = some (some (.int .u8 0), 1, 1))
    (B : Nat) (v : Value) (l : List UInt8) (y : UInt8) (n : Int) (hy : n = (y.toNat : Int)) (hown : OwnB e B W v l) (hs : a.eval s = v) (hx : a.eval x = .slice (some ⟨W.heap.size, 0, none⟩) 1 1) (hlen : l.length ≤ 1000000000) (hB : B ≤ W.heap.size)
    (h : ∀ v' w', OwnB e B w' v' (l ++ [y]) → Below B W w' → wpList P ops Q rest (a.put o.dst v') w') : wpList P ops Q (o :: rest) a (W.alloc (.cells #[.int .u8 n] e)) := by
  subst hy
  obtain ⟨i, hi, hz, hsz, hby⟩ := info_parts hI
  refine wpList_append_own (P := P) (w := W.alloc (.cells #[.int .u8 (y.toNat : Int)] e)) hgd s x t ho B e i (.int .u8 0) 1 1 ht hi hz hsz hby rfl (by decide) v l.length (bytes l) hs (World.ownsRow.alloc hown _) ⟨W.heap.size, 0, none⟩ 1 1 [.int .u8 (y.toNat : Int)] hx rfl ?_ ?_ ?_ ?_ ?_ ?_
  · intro j u hj
    match j, hj with
    | 0, hj => simp at hj; subst hj; simp [Addr.add]
  · intro u hu; simp at hu; subst hu; rfl
  · unfold maxLen; omega
  · omega
  · simp; omega
  · intro v' w' h1 h2 _
    refine h v' w' ?_ (grown_below hown h2 hB)
    unfold OwnB
    rw [bytes_app]
    simpa [bytes] using h1
theorem foldl_push (l : List UInt8) : ∀ s : ByteArray, (l.map fun c => (c.toNat : Int)).foldl (fun r (n : Int) => r.push (UInt8.ofNat n.toNat)) s = ⟨s.data ++ l.toArray⟩ := by
  induction l with
  | nil => intro s; simp
  | cons c l ih =>
    intro s
    rw [List.map_cons, List.foldl_cons, ih]
    apply ByteArray.ext
    simp [ByteArray.push]
theorem run_conv {W : World} {e B : Nat} {v : Value} {l : List UInt8} (src dst : TypeId) (hs : P.underlying src = some (.slice e)) (he : P.underlying e = some (.int .u8)) (hd : P.underlying dst = some .string) (hown : OwnB e B W v l) :
    (convert src dst v).run P W = .ok (.string (mkS l)) W := by
  rcases hown.2 with ⟨rfl, hn⟩ | ⟨g, cap, cur, rfl, hg, hh, hnc, hm, hcs, htake⟩
  · have : l = [] := List.eq_nil_of_length_eq_zero hn
    subst this
    rw [run_convert_bytes_string W src dst e none 0 0 hs he hd]
    rfl
  · rw [run_convert_bytes_string W src dst e _ _ _ hs he hd, run_bytesToString W ⟨g, 0, none⟩ l.length cap (l.map fun c => (c.toNat : Int)) ?_]
    · rw [foldl_push]
      congr 2
      simp [mkS]
    · have hl : ((l.map fun c => (c.toNat : Int)).map (Value.int .u8)).length = l.length := by simp
      have := run_loadCells_list (P := P) (w := W) ⟨g, 0, none⟩ ((l.map fun c => (c.toNat : Int)).map (Value.int .u8)) (fun j v hj => by
        have hb : (bytes l)[j]? = some v := by simpa [bytes] using hj
        exact World.ownsRow.cells hown (g := g) rfl j v hb)
      rw [hl] at this
      exact this
/-- string(l). -/
theorem conv_bytes (hgd : o.guard = none) (x : Operand) (src dst : TypeId) (ho : o.op = .convert src dst x) (e B : Nat) (v : Value) (l : List UInt8)
    (hs : P.underlying src = some (.slice e)) (he : P.underlying e = some (.int .u8)) (hd : P.underlying dst = some .string) (hown : OwnB e B W v l) (hx : a.eval x = v)
    (h : wpList P ops Q rest (a.put o.dst (.string (mkS l))) W) : wpList P ops Q (o :: rest) a W := by
  refine wpList_plain hgd fun K hK => ?_
  have hrun := run_conv (P := P) src dst hs he hd hown
  unfold Oper.wp
  simp [execOp, ho, hx, hrun, Result.andThen]
  exact hK _ _ h
end
end Go.Proofs.Ytkbceojeahninaa
