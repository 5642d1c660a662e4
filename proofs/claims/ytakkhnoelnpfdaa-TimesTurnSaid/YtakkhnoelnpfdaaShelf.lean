/-
  DERIVED: THE SHELF's CONTRACTS AT THIS DUMP, IN PLAIN WORDS (tools/lay-plain.mjs out of 'YtakkhnoelnpfdaaShelf0.lean', which tools/lay-shelf.mjs wrote): THE SAME DECLARATIONS UNDER THE SAME NAMES: 'import', 'namespace', 'open', 'def', 'theorem' AND NOTHING ELSE: no command of the shelf's: FOR A HAND-IN. Each laying: the table of numbers ('.._ren') and one theorem, a field a fact of the dump's own or the kernel's comparison; each contract: ONE APPLICATION.
-/
import Derived.Shelf.SlSortCmp.NoneTotal
import Derived.Ground.SlsfProg
import Derived.Shelf.SlicesG.Cmp
import Derived.Ground.SlgcProg
import Derived.Shelf.SlicesE.DeleteFunc
import Derived.Ground.SlgfProg
import Derived.Test.YtakkhnoelnpfdaaProg
import Derived.Shelf.SlGeneric
namespace Go.Proofs
open Go.Shelf
def Try.sortPc_ren : Go.Shelf.Ren := ⟨fun | 6 => 151 | 15 => 170 | 14 => 169 | 28 => 186 | 29 => 187 | 20 => 178 | 21 => 179 | 22 => 180 | 23 => 181 | 24 => 182 | 25 => 183 | 26 => 184 | 27 => 185 | 46 => 189 | 47 => 190 | 48 => 191 | 49 => 192 | 50 => 193 | 57 => 194 | n => n, fun | 22 => 190 | 24 => 219 | 25 => 226 | 3 => 3 | 39 => 245 | 0 => 0 | 53 => 256 | 55 => 258 | 4 => 4 | 46 => 250 | 45 => 249 | 50 => 170 | 5 => 5 | 9 => 9 | 66 => 259 | 70 => 263 | 76 => 265 | 77 => 266 | n => n, fun | n => n⟩
theorem Try.sortPc : Go.Proofs.SlLaysF0.n6 Try.prog Try.sortPc_ren := {
  mixed := by kernel_rfl
  f6 := ⟨Try.f151.name, by decide, Try.func151.trans (congrArg some (by kernel_rfl))⟩
  f14 := ⟨Try.f169.name, by decide, Try.func169.trans (congrArg some (by kernel_rfl))⟩
  f15 := Try.func170.trans (congrArg some (by kernel_rfl))
  f20 := ⟨Try.f178.name, by decide, Try.func178.trans (congrArg some (by kernel_rfl))⟩
  f21 := ⟨Try.f179.name, by decide, Try.func179.trans (congrArg some (by kernel_rfl))⟩
  f22 := ⟨Try.f180.name, by decide, Try.func180.trans (congrArg some (by kernel_rfl))⟩
  f23 := ⟨Try.f181.name, by decide, Try.func181.trans (congrArg some (by kernel_rfl))⟩
  f24 := ⟨Try.f182.name, by decide, Try.func182.trans (congrArg some (by kernel_rfl))⟩
  f25 := ⟨Try.f183.name, by decide, Try.func183.trans (congrArg some (by kernel_rfl))⟩
  f26 := ⟨Try.f184.name, by decide, Try.func184.trans (congrArg some (by kernel_rfl))⟩
  f27 := ⟨Try.f185.name, by decide, Try.func185.trans (congrArg some (by kernel_rfl))⟩
  f28 := Try.func186.trans (congrArg some (by kernel_rfl))
  f29 := Try.func187.trans (congrArg some (by kernel_rfl))
  f46 := ⟨Try.f189.name, by decide, Try.func189.trans (congrArg some (by kernel_rfl))⟩
  f47 := Try.func190.trans (congrArg some (by kernel_rfl))
  f48 := Try.func191.trans (congrArg some (by kernel_rfl))
  f49 := ⟨Try.f192.name, by decide, Try.func192.trans (congrArg some (by kernel_rfl))⟩
  f50 := ⟨Try.f193.name, by decide, Try.func193.trans (congrArg some (by kernel_rfl))⟩
  f57 := ⟨Try.f194.name, by decide, Try.func194.trans (congrArg some (by kernel_rfl))⟩
  t0 := Try.underlying0
  a0 := Try.isAgg0
  z0 := Try.sizeOf0
  v0 := Try.zeroValue0
  t3 := Try.underlying3
  a3 := Try.isAgg3
  z3 := Try.sizeOf3
  v3 := Try.zeroValue3
  t4 := Try.underlying4
  a4 := Try.isAgg4
  z4 := Try.sizeOf4
  v4 := Try.zeroValue4
  t5 := Try.underlying5
  a5 := Try.isAgg5
  z5 := Try.sizeOf5
  v5 := Try.zeroValue5
  t9 := Try.underlying9
  a9 := Try.isAgg9
  z9 := Try.sizeOf9
  v9 := Try.zeroValue9
  t22 := Try.underlying190
  a22 := Try.isAgg190
  z22 := Try.sizeOf190
  v22 := Try.zeroValue190
  t25 := Try.underlying226
  a25 := Try.isAgg226
  z25 := Try.sizeOf226
  v25 := Try.zeroValue226
  t39 := Try.underlying245
  a39 := Try.isAgg245
  z39 := Try.sizeOf245
  v39 := Try.zeroValue245
  t45 := Try.underlying249
  a45 := Try.isAgg249
  z45 := Try.sizeOf249
  v45 := Try.zeroValue249
  t46 := Try.underlying250
  a46 := Try.isAgg250
  z46 := Try.sizeOf250
  v46 := Try.zeroValue250
  t50 := Try.underlying170
  a50 := Try.isAgg170
  z50 := Try.sizeOf170
  v50 := Try.zeroValue170
  t53 := Try.underlying256
  a53 := Try.isAgg256
  z53 := Try.sizeOf256
  v53 := Try.zeroValue256
  t55 := Try.underlying258
  a55 := Try.isAgg258
  z55 := Try.sizeOf258
  v55 := Try.zeroValue258
  t66 := Try.underlying259
  a66 := Try.isAgg259
  z66 := Try.sizeOf259
  v66 := Try.zeroValue259
  t70 := Try.underlying263
  a70 := Try.isAgg263
  z70 := Try.sizeOf263
  v70 := Try.zeroValue263
  t76 := Try.underlying265
  a76 := Try.isAgg265
  z76 := Try.sizeOf265
  v76 := Try.zeroValue265
  t77 := Try.underlying266
  a77 := Try.isAgg266
  z77 := Try.sizeOf266
  v77 := Try.zeroValue266 }
def Try.cmpInt_ren : Go.Shelf.Ren := ⟨fun | 5 => 153 | 7 => 171 | n => n, fun | 22 => 2 | 3 => 3 | 4 => 4 | n => n, fun | n => n⟩
theorem Try.cmpInt : Go.Proofs.SlLaysC2.n5 Try.prog Try.cmpInt_ren := {
  mixed := by kernel_rfl
  f5 := ⟨Try.f153.name, by decide, Try.func153.trans (congrArg some (by kernel_rfl))⟩
  f7 := ⟨Try.f171.name, by decide, Try.func171.trans (congrArg some (by kernel_rfl))⟩
  t3 := Try.underlying3
  a3 := Try.isAgg3
  z3 := Try.sizeOf3
  v3 := Try.zeroValue3
  t4 := Try.underlying4
  a4 := Try.isAgg4
  z4 := Try.sizeOf4
  v4 := Try.zeroValue4
  t22 := Try.underlying2
  a22 := Try.isAgg2
  z22 := Try.sizeOf2
  v22 := Try.zeroValue2 }
def Try.delStr_ren : Go.Shelf.Ren := ⟨fun | 10 => 145 | 6 => 167 | n => n, fun | 22 => 40 | 23 => 9 | 25 => 206 | 3 => 3 | 4 => 4 | 0 => 0 | n => n, fun | n => n⟩
theorem Try.delStr : Go.Proofs.SlLaysH.n10 Try.prog Try.delStr_ren := {
  mixed := by kernel_rfl
  f6 := ⟨Try.f167.name, by decide, Try.func167.trans (congrArg some (by kernel_rfl))⟩
  f10 := ⟨Try.f145.name, by decide, Try.func145.trans (congrArg some (by kernel_rfl))⟩
  t0 := Try.underlying0
  a0 := Try.isAgg0
  z0 := Try.sizeOf0
  v0 := Try.zeroValue0
  t3 := Try.underlying3
  a3 := Try.isAgg3
  z3 := Try.sizeOf3
  v3 := Try.zeroValue3
  t4 := Try.underlying4
  a4 := Try.isAgg4
  z4 := Try.sizeOf4
  v4 := Try.zeroValue4
  t22 := Try.underlying40
  a22 := Try.isAgg40
  z22 := Try.sizeOf40
  v22 := Try.zeroValue40
  a23 := Try.isAgg9
  z23 := Try.sizeOf9
  t25 := Try.underlying206
  a25 := Try.isAgg206
  z25 := Try.sizeOf206
  v25 := Try.zeroValue206 }
end Go.Proofs
