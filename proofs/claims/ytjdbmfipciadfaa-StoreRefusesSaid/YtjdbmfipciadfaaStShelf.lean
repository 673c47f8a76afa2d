/-
  The library's sort of strings, laid at this program (written by the kit's lay-plain).
-/import Derived.Shelf.Sort.Plain
import Derived.Shelf.Slices.In.SortNone
import Derived.Test.YtjdbmfipciadfaaProg
namespace Go.Proofs
open Go.Shelf
def Ytjdbmfipciadfaa.A.lays190_ren : Go.Shelf.Ren := ⟨fun | 190 => 155 | 125 => 163 | 258 => 165 | 128 => 174 | 129 => 175 | 302 => 176 | 303 => 177 | 304 => 178 | 305 => 179 | 306 => 180 | 307 => 181 | 308 => 182 | 309 => 183 | 310 => 184 | 333 => 190 | 329 => 186 | 330 => 187 | 334 => 191 | 335 => 192 | 336 => 193 | 344 => 195 | n => n, fun | 31 => 66 | 9 => 9 | 3 => 3 | 46 => 204 | 0 => 0 | 51 => 216 | 53 => 218 | 4 => 4 | 183 => 209 | 182 => 208 | 131 => 213 | 5 => 5 | 218 => 225 | 222 => 229 | 228 => 233 | 229 => 234 | n => n, fun | n => n⟩
theorem Ytjdbmfipciadfaa.A.lays190 : Go.Proofs.Lays.n190 Try.prog Ytjdbmfipciadfaa.A.lays190_ren := {
  mixed := by kernel_rfl
  f125 := Try.func163.trans (congrArg some (by kernel_rfl))
  f128 := Try.func174.trans (congrArg some (by kernel_rfl))
  f129 := Try.func175.trans (congrArg some (by kernel_rfl))
  f190 := Try.func155.trans (congrArg some (by kernel_rfl))
  f258 := Try.func165.trans (congrArg some (by kernel_rfl))
  f302 := Try.func176.trans (congrArg some (by kernel_rfl))
  f303 := Try.func177.trans (congrArg some (by kernel_rfl))
  f304 := Try.func178.trans (congrArg some (by kernel_rfl))
  f305 := Try.func179.trans (congrArg some (by kernel_rfl))
  f306 := Try.func180.trans (congrArg some (by kernel_rfl))
  f307 := Try.func181.trans (congrArg some (by kernel_rfl))
  f308 := Try.func182.trans (congrArg some (by kernel_rfl))
  f309 := Try.func183.trans (congrArg some (by kernel_rfl))
  f310 := Try.func184.trans (congrArg some (by kernel_rfl))
  f329 := Try.func186.trans (congrArg some (by kernel_rfl))
  f330 := Try.func187.trans (congrArg some (by kernel_rfl))
  f333 := Try.func190.trans (congrArg some (by kernel_rfl))
  f334 := Try.func191.trans (congrArg some (by kernel_rfl))
  f335 := Try.func192.trans (congrArg some (by kernel_rfl))
  f336 := Try.func193.trans (congrArg some (by kernel_rfl))
  f344 := Try.func195.trans (congrArg some (by kernel_rfl))
  t0 := Try.underlying0
  a0 := Try.isAgg0
  z0 := Try.sizeOf0
  v0 := Try.zeroValue0
  t3 := Try.underlying3
  a3 := Try.isAgg3
  z3 := Try.sizeOf3
  v3 := Try.zeroValue3
  t4 := Try.underlying4
  a4 := Try.isAgg4
  z4 := Try.sizeOf4
  v4 := Try.zeroValue4
  t5 := Try.underlying5
  a5 := Try.isAgg5
  z5 := Try.sizeOf5
  v5 := Try.zeroValue5
  t9 := Try.underlying9
  a9 := Try.isAgg9
  z9 := Try.sizeOf9
  v9 := Try.zeroValue9
  t31 := Try.underlying66
  a31 := Try.isAgg66
  z31 := Try.sizeOf66
  v31 := Try.zeroValue66
  t46 := Try.underlying204
  a46 := Try.isAgg204
  z46 := Try.sizeOf204
  v46 := Try.zeroValue204
  t51 := Try.underlying216
  a51 := Try.isAgg216
  z51 := Try.sizeOf216
  v51 := Try.zeroValue216
  t53 := Try.underlying218
  a53 := Try.isAgg218
  z53 := Try.sizeOf218
  v53 := Try.zeroValue218
  t131 := Try.underlying213
  a131 := Try.isAgg213
  z131 := Try.sizeOf213
  v131 := Try.zeroValue213
  t182 := Try.underlying208
  a182 := Try.isAgg208
  z182 := Try.sizeOf208
  v182 := Try.zeroValue208
  t183 := Try.underlying209
  a183 := Try.isAgg209
  z183 := Try.sizeOf209
  v183 := Try.zeroValue209
  t218 := Try.underlying225
  a218 := Try.isAgg225
  z218 := Try.sizeOf225
  v218 := Try.zeroValue225
  t222 := Try.underlying229
  a222 := Try.isAgg229
  z222 := Try.sizeOf229
  v222 := Try.zeroValue229
  t228 := Try.underlying233
  a228 := Try.isAgg233
  z228 := Try.sizeOf233
  v228 := Try.zeroValue233
  t229 := Try.underlying234
  a229 := Try.isAgg234
  z229 := Try.sizeOf234
  v229 := Try.zeroValue234 }
end Go.Proofs
