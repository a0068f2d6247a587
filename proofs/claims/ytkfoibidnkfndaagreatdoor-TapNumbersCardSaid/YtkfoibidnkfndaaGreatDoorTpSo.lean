/- Sorting rows of numbers in this program: the shelf's contract, laid here. -/
import Derived.Test.YtkfoibidnkfndaaGreatDoorAbS18
import Derived.Test.YtkfoibidnkfndaaGreatDoorTpBase
set_option linter.unusedSimpArgs false
set_option linter.unusedVariables false
namespace Go.Proofs.YtkfoibidnkfndaaGreatDoor
open Go.Shelf Go.Abs
def ren189 : Shelf.Ren :=
{
  f := fun x =>
    match x with
    | 189 => 112
    | 125 => 162
    | 257 => 161
    | 128 => 190
    | 129 => 177
    | 294 => 182
    | 295 => 183
    | 296 => 184
    | 297 => 185
    | 298 => 186
    | 299 => 187
    | 216 => 119
    | 300 => 188
    | 301 => 189
    | 328 => 210
    | 329 => 211
    | 330 => 212
    | 331 => 213
    | 332 => 214
    | 215 => 105
    | 343 => 235
    | n => n,
  t := fun x =>
    match x with
    | 28 => 27
    | 3 => 3
    | 46 => 160
    | 0 => 0
    | 51 => 99
    | 53 => 149
    | 4 => 4
    | 183 => 210
    | 182 => 209
    | 131 => 95
    | 5 => 5
    | 9 => 9
    | 218 => 230
    | 222 => 234
    | 228 => 244
    | 229 => 245
    | n => n,
  g := fun n => n }
theorem lays189 : Lays.n189 Tryz.prog ren189 :=
{ mixed := Eq.refl true, f125 := by kernel_rfl,
  f128 := by kernel_rfl,
  f129 := by kernel_rfl,
  f189 := by kernel_rfl,
  f215 := by kernel_rfl,
  f216 := by kernel_rfl,
  f257 := by kernel_rfl,
  f294 := by kernel_rfl,
  f295 := by kernel_rfl,
  f296 := by kernel_rfl,
  f297 := by kernel_rfl,
  f298 := by kernel_rfl,
  f299 := by kernel_rfl,
  f300 := by kernel_rfl,
  f301 := by kernel_rfl,
  f328 := by kernel_rfl,
  f329 := by kernel_rfl,
  f330 := by kernel_rfl,
  f331 := by kernel_rfl,
  f332 := by kernel_rfl,
  f343 := by kernel_rfl, t0 := Tryz.underlying0,
  a0 := Tryz.isAgg0, z0 := Tryz.sizeOf0, v0 := Tryz.zeroValue0, t3 := Tryz.underlying3, a3 := Tryz.isAgg3,
  z3 := Tryz.sizeOf3, v3 := Tryz.zeroValue3, t4 := Tryz.underlying4, a4 := Tryz.isAgg4, z4 := Tryz.sizeOf4,
  v4 := Tryz.zeroValue4, t5 := Tryz.underlying5, a5 := Tryz.isAgg5, z5 := Tryz.sizeOf5, v5 := Tryz.zeroValue5,
  t9 := Tryz.underlying9, a9 := Tryz.isAgg9, z9 := Tryz.sizeOf9, v9 := Tryz.zeroValue9, t28 := Tryz.underlying27,
  a28 := Tryz.isAgg27, z28 := Tryz.sizeOf27, v28 := Tryz.zeroValue27, t46 := Tryz.underlying160, a46 := Tryz.isAgg160,
  z46 := Tryz.sizeOf160, v46 := Tryz.zeroValue160, t51 := Tryz.underlying99, a51 := Tryz.isAgg99, z51 := Tryz.sizeOf99,
  v51 := Tryz.zeroValue99, t53 := Tryz.underlying149, a53 := Tryz.isAgg149, z53 := Tryz.sizeOf149,
  v53 := Tryz.zeroValue149, t131 := Tryz.underlying95, a131 := Tryz.isAgg95, z131 := Tryz.sizeOf95,
  v131 := Tryz.zeroValue95, t182 := Tryz.underlying209, a182 := Tryz.isAgg209, z182 := Tryz.sizeOf209,
  v182 := Tryz.zeroValue209, t183 := Tryz.underlying210, a183 := Tryz.isAgg210, z183 := Tryz.sizeOf210,
  v183 := Tryz.zeroValue210, t218 := Tryz.underlying230, a218 := Tryz.isAgg230, z218 := Tryz.sizeOf230,
  v218 := Tryz.zeroValue230, t222 := Tryz.underlying234, a222 := Tryz.isAgg234, z222 := Tryz.sizeOf234,
  v222 := Tryz.zeroValue234, t228 := Tryz.underlying244, a228 := Tryz.isAgg244, z228 := Tryz.sizeOf244,
  v228 := Tryz.zeroValue244, t229 := Tryz.underlying245, a229 := Tryz.isAgg245, z229 := Tryz.sizeOf245,
  v229 := Tryz.zeroValue245 }

theorem sortsInts : SortsInts P 112 := fun blk off cap zs w hH hblk hsz => Any.slices_Sort_int lays189 blk off cap zs w hH hblk hsz
end Go.Proofs.YtkfoibidnkfndaaGreatDoor
