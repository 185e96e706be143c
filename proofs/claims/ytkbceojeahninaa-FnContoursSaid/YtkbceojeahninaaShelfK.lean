/- How the library's function lies in this program (laid by the kit's lay-shelf.mjs and lay-plain.mjs). -/
import Derived.Shelf.Strings.Search3
import Derived.Shelf.Strings.Shaped
import Derived.Shelf.LaysM
import Derived.Test.YtkbceojeahninaaProg
namespace Go.Proofs
open Go.Shelf
def Try.lays144_ren : Go.Shelf.Ren := ⟨fun | 144 => 69 | 143 => 99 | 219 => 109 | 217 => 114 | 225 => 115 | 224 => 116 | 267 => 117 | 266 => 119 | 314 => 120 | n => n, fun | 9 => 9 | 4 => 4 | 3 => 3 | 5 => 5 | 46 => 124 | 146 => 126 | 51 => 125 | n => n, fun | 1 => 0 | n => n⟩
theorem Try.lays144 : Go.Proofs.Lays.n144 Try.prog Try.lays144_ren := {
  mixed := by kernel_rfl
  f143 := Try.func99.trans (congrArg some (by kernel_rfl))
  f144 := Try.func69.trans (congrArg some (by kernel_rfl))
  f217 := Try.func114.trans (congrArg some (by kernel_rfl))
  f219 := Try.func109.trans (congrArg some (by kernel_rfl))
  f224 := Try.func116.trans (congrArg some (by kernel_rfl))
  f225 := Try.func115.trans (congrArg some (by kernel_rfl))
  f266 := Try.func119.trans (congrArg some (by kernel_rfl))
  f267 := Try.func117.trans (congrArg some (by kernel_rfl))
  f314 := Try.func120.trans (congrArg some (by kernel_rfl))
  t3 := Try.underlying3
  a3 := Try.isAgg3
  z3 := Try.sizeOf3
  v3 := Try.zeroValue3
  t4 := Try.underlying4
  a4 := Try.isAgg4
  z4 := Try.sizeOf4
  v4 := Try.zeroValue4
  t5 := Try.underlying5
  a5 := Try.isAgg5
  z5 := Try.sizeOf5
  v5 := Try.zeroValue5
  t9 := Try.underlying9
  a9 := Try.isAgg9
  z9 := Try.sizeOf9
  v9 := Try.zeroValue9
  t46 := Try.underlying124
  a46 := Try.isAgg124
  z46 := Try.sizeOf124
  v46 := Try.zeroValue124
  t51 := Try.underlying125
  a51 := Try.isAgg125
  z51 := Try.sizeOf125
  v51 := Try.zeroValue125
  t146 := Try.underlying126
  a146 := Try.isAgg126
  z146 := Try.sizeOf126
  v146 := Try.zeroValue126
  g1 := by kernel_rfl }
def Try.laysM144_ren : Go.Shelf.Ren := ⟨fun | 144 => 69 | 143 => 99 | 219 => 109 | 217 => 114 | 225 => 115 | 224 => 116 | 267 => 117 | 266 => 119 | 314 => 120 | n => n, fun | 9 => 9 | 4 => 4 | 3 => 3 | 5 => 5 | 46 => 124 | 146 => 126 | 51 => 125 | n => n, fun | 1 => 0 | n => n⟩
theorem Try.laysM144 : Go.Proofs.LaysM.n144 Try.prog Try.laysM144_ren := {
  mixed := by kernel_rfl
  f143 := Try.func99.trans (congrArg some (by kernel_rfl))
  f144 := Try.func69.trans (congrArg some (by kernel_rfl))
  f217 := Try.func114.trans (congrArg some (by kernel_rfl))
  f219 := Try.func109.trans (congrArg some (by kernel_rfl))
  f224 := Try.func116.trans (congrArg some (by kernel_rfl))
  f225 := Try.func115.trans (congrArg some (by kernel_rfl))
  f266 := Try.func119.trans (congrArg some (by kernel_rfl))
  f267 := Try.func117.trans (congrArg some (by kernel_rfl))
  f314 := Try.func120.trans (congrArg some (by kernel_rfl))
  t3 := Try.underlying3
  a3 := Try.isAgg3
  z3 := Try.sizeOf3
  v3 := Try.zeroValue3
  t4 := Try.underlying4
  a4 := Try.isAgg4
  z4 := Try.sizeOf4
  v4 := Try.zeroValue4
  t5 := Try.underlying5
  a5 := Try.isAgg5
  z5 := Try.sizeOf5
  v5 := Try.zeroValue5
  t9 := Try.underlying9
  a9 := Try.isAgg9
  z9 := Try.sizeOf9
  v9 := Try.zeroValue9
  t46 := Try.underlying124
  a46 := Try.isAgg124
  z46 := Try.sizeOf124
  v46 := Try.zeroValue124
  t51 := Try.underlying125
  a51 := Try.isAgg125
  z51 := Try.sizeOf125
  v51 := Try.zeroValue125
  t146 := Try.underlying126
  a146 := Try.isAgg126
  z146 := Try.sizeOf126
  v146 := Try.zeroValue126
  g1 := by kernel_rfl
  i3 := by kernel_rfl
  i4 := by kernel_rfl
  i5 := by kernel_rfl
  i9 := by kernel_rfl
  i46 := by kernel_rfl
  i51 := by kernel_rfl
  i146 := by kernel_rfl
  m1 := by kernel_rfl
  s1_3 := fun w h => Go.Proofs.cell_of_shapedOpen_int (zero := #[.int .i64 0]) (t := 3) h (of_decide_eq_true (by kernel_rfl)) (by kernel_rfl) rfl (by kernel_rfl) (by kernel_rfl) Try.underlying3 }
end Go.Proofs
