/- The shelf's contract of slices.Sort at this program, in plain words (written by the kit's lay-plain.mjs). -/
import Derived.Shelf.Sort.Plain
import Derived.Shelf.Slices.In.SortNone
import Derived.Ground.Names2Prog
import Derived.Test.YtphkigpngblniaaGreatProg
namespace Go.Proofs
open Go.Shelf
def Tryz.lays189_ren : Go.Shelf.Ren := ⟨fun | 189 => 108 | 125 => 171 | 257 => 170 | 128 => 266 | 129 => 267 | 294 => 257 | 295 => 258 | 296 => 259 | 297 => 260 | 298 => 261 | 299 => 262 | 216 => 263 | 300 => 264 | 301 => 265 | 328 => 353 | 329 => 354 | 330 => 355 | 331 => 356 | 332 => 357 | 215 => 342 | 343 => 418 | n => n, fun | 28 => 57 | 3 => 3 | 46 => 37 | 0 => 0 | 51 => 382 | 53 => 22 | 4 => 4 | 183 => 375 | 182 => 374 | 131 => 379 | 5 => 5 | 9 => 9 | 218 => 453 | 222 => 457 | 228 => 501 | 229 => 94 | n => n, fun | n => n⟩
theorem Tryz.lays189 : Go.Proofs.Lays.n189 Tryz.prog Tryz.lays189_ren := {
  mixed := by kernel_rfl
  f125 := Tryz.func171.trans (congrArg some (by kernel_rfl))
  f128 := Tryz.func266.trans (congrArg some (by kernel_rfl))
  f129 := Tryz.func267.trans (congrArg some (by kernel_rfl))
  f189 := Tryz.func108.trans (congrArg some (by kernel_rfl))
  f215 := Tryz.func342.trans (congrArg some (by kernel_rfl))
  f216 := Tryz.func263.trans (congrArg some (by kernel_rfl))
  f257 := Tryz.func170.trans (congrArg some (by kernel_rfl))
  f294 := Tryz.func257.trans (congrArg some (by kernel_rfl))
  f295 := Tryz.func258.trans (congrArg some (by kernel_rfl))
  f296 := Tryz.func259.trans (congrArg some (by kernel_rfl))
  f297 := Tryz.func260.trans (congrArg some (by kernel_rfl))
  f298 := Tryz.func261.trans (congrArg some (by kernel_rfl))
  f299 := Tryz.func262.trans (congrArg some (by kernel_rfl))
  f300 := Tryz.func264.trans (congrArg some (by kernel_rfl))
  f301 := Tryz.func265.trans (congrArg some (by kernel_rfl))
  f328 := Tryz.func353.trans (congrArg some (by kernel_rfl))
  f329 := Tryz.func354.trans (congrArg some (by kernel_rfl))
  f330 := Tryz.func355.trans (congrArg some (by kernel_rfl))
  f331 := Tryz.func356.trans (congrArg some (by kernel_rfl))
  f332 := Tryz.func357.trans (congrArg some (by kernel_rfl))
  f343 := Tryz.func418.trans (congrArg some (by kernel_rfl))
  t0 := Tryz.underlying0
  a0 := Tryz.isAgg0
  z0 := Tryz.sizeOf0
  v0 := Tryz.zeroValue0
  t3 := Tryz.underlying3
  a3 := Tryz.isAgg3
  z3 := Tryz.sizeOf3
  v3 := Tryz.zeroValue3
  t4 := Tryz.underlying4
  a4 := Tryz.isAgg4
  z4 := Tryz.sizeOf4
  v4 := Tryz.zeroValue4
  t5 := Tryz.underlying5
  a5 := Tryz.isAgg5
  z5 := Tryz.sizeOf5
  v5 := Tryz.zeroValue5
  t9 := Tryz.underlying9
  a9 := Tryz.isAgg9
  z9 := Tryz.sizeOf9
  v9 := Tryz.zeroValue9
  t28 := Tryz.underlying57
  a28 := Tryz.isAgg57
  z28 := Tryz.sizeOf57
  v28 := Tryz.zeroValue57
  t46 := Tryz.underlying37
  a46 := Tryz.isAgg37
  z46 := Tryz.sizeOf37
  v46 := Tryz.zeroValue37
  t51 := Tryz.underlying382
  a51 := Tryz.isAgg382
  z51 := Tryz.sizeOf382
  v51 := Tryz.zeroValue382
  t53 := Tryz.underlying22
  a53 := Tryz.isAgg22
  z53 := Tryz.sizeOf22
  v53 := Tryz.zeroValue22
  t131 := Tryz.underlying379
  a131 := Tryz.isAgg379
  z131 := Tryz.sizeOf379
  v131 := Tryz.zeroValue379
  t182 := Tryz.underlying374
  a182 := Tryz.isAgg374
  z182 := Tryz.sizeOf374
  v182 := Tryz.zeroValue374
  t183 := Tryz.underlying375
  a183 := Tryz.isAgg375
  z183 := Tryz.sizeOf375
  v183 := Tryz.zeroValue375
  t218 := Tryz.underlying453
  a218 := Tryz.isAgg453
  z218 := Tryz.sizeOf453
  v218 := Tryz.zeroValue453
  t222 := Tryz.underlying457
  a222 := Tryz.isAgg457
  z222 := Tryz.sizeOf457
  v222 := Tryz.zeroValue457
  t228 := Tryz.underlying501
  a228 := Tryz.isAgg501
  z228 := Tryz.sizeOf501
  v228 := Tryz.zeroValue501
  t229 := Tryz.underlying94
  a229 := Tryz.isAgg94
  z229 := Tryz.sizeOf94
  v229 := Tryz.zeroValue94 }
end Go.Proofs
