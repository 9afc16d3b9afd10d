/- A function of Go's library laid at this translation: its code is the one that the library's contract speaks of. No conditions. -/
import Derived.Test.YtoglfnjankinnaaTab
import Derived.Shelf.Sort.Plain
import Derived.KernelRfl
namespace Go.Proofs.Ytoglfnjankinnaa.E
open Go.Shelf
def lays190_ren : Go.Shelf.Ren := ⟨fun | 190 => 64 | 125 => 121 | 258 => 120 | 128 => 168 | 129 => 169 | 302 => 159 | 303 => 160 | 304 => 161 | 305 => 162 | 306 => 163 | 307 => 164 | 308 => 165 | 309 => 166 | 310 => 167 | 333 => 179 | 329 => 180 | 330 => 181 | 334 => 182 | 335 => 183 | 336 => 184 | 344 => 189 | n => n, fun | 31 => 55 | 9 => 9 | 3 => 3 | 46 => 126 | 0 => 0 | 51 => 169 | 53 => 171 | 4 => 4 | 183 => 161 | 182 => 160 | 131 => 166 | 5 => 5 | 218 => 177 | 222 => 71 | 228 => 183 | 229 => 184 | n => n, fun n => n⟩
set_option maxRecDepth 100000 in
theorem lays190 : Go.Proofs.Lays.n190 Try.prog lays190_ren where
  mixed := by kernel_rfl
  f125 := Try.func121.trans (congrArg some (by kernel_rfl))
  f128 := Try.func168.trans (congrArg some (by kernel_rfl))
  f129 := Try.func169.trans (congrArg some (by kernel_rfl))
  f190 := Try.func64.trans (congrArg some (by kernel_rfl))
  f258 := Try.func120.trans (congrArg some (by kernel_rfl))
  f302 := Try.func159.trans (congrArg some (by kernel_rfl))
  f303 := Try.func160.trans (congrArg some (by kernel_rfl))
  f304 := Try.func161.trans (congrArg some (by kernel_rfl))
  f305 := Try.func162.trans (congrArg some (by kernel_rfl))
  f306 := Try.func163.trans (congrArg some (by kernel_rfl))
  f307 := Try.func164.trans (congrArg some (by kernel_rfl))
  f308 := Try.func165.trans (congrArg some (by kernel_rfl))
  f309 := Try.func166.trans (congrArg some (by kernel_rfl))
  f310 := Try.func167.trans (congrArg some (by kernel_rfl))
  f329 := Try.func180.trans (congrArg some (by kernel_rfl))
  f330 := Try.func181.trans (congrArg some (by kernel_rfl))
  f333 := Try.func179.trans (congrArg some (by kernel_rfl))
  f334 := Try.func182.trans (congrArg some (by kernel_rfl))
  f335 := Try.func183.trans (congrArg some (by kernel_rfl))
  f336 := Try.func184.trans (congrArg some (by kernel_rfl))
  f344 := Try.func189.trans (congrArg some (by kernel_rfl))
  t0 := Try.underlying0
  a0 := Try.isAgg0
  z0 := Try.sizeOf0
  v0 := Try.zeroValue0
  t3 := Try.underlying3
  a3 := Try.isAgg3
  z3 := Try.sizeOf3
  v3 := Try.zeroValue3
  t4 := Try.underlying4
  a4 := Try.isAgg4
  z4 := Try.sizeOf4
  v4 := Try.zeroValue4
  t5 := Try.underlying5
  a5 := Try.isAgg5
  z5 := Try.sizeOf5
  v5 := Try.zeroValue5
  t9 := Try.underlying9
  a9 := Try.isAgg9
  z9 := Try.sizeOf9
  v9 := Try.zeroValue9
  t31 := Try.underlying55
  a31 := Try.isAgg55
  z31 := Try.sizeOf55
  v31 := Try.zeroValue55
  t46 := Try.underlying126
  a46 := Try.isAgg126
  z46 := Try.sizeOf126
  v46 := Try.zeroValue126
  t51 := Try.underlying169
  a51 := Try.isAgg169
  z51 := Try.sizeOf169
  v51 := Try.zeroValue169
  t53 := Try.underlying171
  a53 := Try.isAgg171
  z53 := Try.sizeOf171
  v53 := Try.zeroValue171
  t131 := Try.underlying166
  a131 := Try.isAgg166
  z131 := Try.sizeOf166
  v131 := Try.zeroValue166
  t182 := Try.underlying160
  a182 := Try.isAgg160
  z182 := Try.sizeOf160
  v182 := Try.zeroValue160
  t183 := Try.underlying161
  a183 := Try.isAgg161
  z183 := Try.sizeOf161
  v183 := Try.zeroValue161
  t218 := Try.underlying177
  a218 := Try.isAgg177
  z218 := Try.sizeOf177
  v218 := Try.zeroValue177
  t222 := Try.underlying71
  a222 := Try.isAgg71
  z222 := Try.sizeOf71
  v222 := Try.zeroValue71
  t228 := Try.underlying183
  a228 := Try.isAgg183
  z228 := Try.sizeOf183
  v228 := Try.zeroValue183
  t229 := Try.underlying184
  a229 := Try.isAgg184
  z229 := Try.sizeOf184
  v229 := Try.zeroValue184
end Go.Proofs.Ytoglfnjankinnaa.E
