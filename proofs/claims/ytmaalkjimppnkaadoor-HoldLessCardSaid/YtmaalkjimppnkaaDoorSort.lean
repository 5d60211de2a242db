/-
  DERIVED: THE SHELF's CONTRACTS AT THIS DUMP, IN PLAIN WORDS (tools/lay-plain.mjs out of 'TrydSort.lean', which tools/lay-shelf.mjs wrote): THE SAME DECLARATIONS UNDER THE SAME NAMES: 'import', 'namespace', 'open', 'def', 'theorem' AND NOTHING ELSE: no command of the shelf's: FOR A HAND-IN. Each laying: the table of numbers ('.._ren') and one theorem, a field a fact of the dump's own or the kernel's comparison; each contract: ONE APPLICATION.
-/
import Derived.Shelf.SlSortCmp.NoneTotal
import Derived.Ground.SlsfProg
import Derived.Test.YtmaalkjimppnkaaDoorProg
namespace Go.Proofs
open Go.Shelf
def Tryd.sortPt_ren : Go.Shelf.Ren := ⟨fun | 6 => 147 | 15 => 178 | 14 => 177 | 28 => 201 | 29 => 202 | 20 => 193 | 21 => 194 | 22 => 195 | 23 => 196 | 24 => 197 | 25 => 198 | 26 => 199 | 27 => 200 | 46 => 211 | 47 => 212 | 48 => 213 | 49 => 214 | 50 => 215 | 57 => 222 | n => n, fun | 22 => 174 | 24 => 178 | 25 => 223 | 3 => 3 | 39 => 193 | 0 => 0 | 53 => 141 | 55 => 276 | 4 => 4 | 46 => 283 | 45 => 282 | 50 => 187 | 5 => 5 | 9 => 9 | 66 => 296 | 70 => 300 | 76 => 308 | 77 => 129 | n => n, fun | n => n⟩
theorem Tryd.sortPt : Go.Proofs.SlLaysF0.n6 Tryd.prog Tryd.sortPt_ren := {
  mixed := by kernel_rfl
  f6 := ⟨Tryd.f147.name, by decide, Tryd.func147.trans (congrArg some (by kernel_rfl))⟩
  f14 := ⟨Tryd.f177.name, by decide, Tryd.func177.trans (congrArg some (by kernel_rfl))⟩
  f15 := Tryd.func178.trans (congrArg some (by kernel_rfl))
  f20 := ⟨Tryd.f193.name, by decide, Tryd.func193.trans (congrArg some (by kernel_rfl))⟩
  f21 := ⟨Tryd.f194.name, by decide, Tryd.func194.trans (congrArg some (by kernel_rfl))⟩
  f22 := ⟨Tryd.f195.name, by decide, Tryd.func195.trans (congrArg some (by kernel_rfl))⟩
  f23 := ⟨Tryd.f196.name, by decide, Tryd.func196.trans (congrArg some (by kernel_rfl))⟩
  f24 := ⟨Tryd.f197.name, by decide, Tryd.func197.trans (congrArg some (by kernel_rfl))⟩
  f25 := ⟨Tryd.f198.name, by decide, Tryd.func198.trans (congrArg some (by kernel_rfl))⟩
  f26 := ⟨Tryd.f199.name, by decide, Tryd.func199.trans (congrArg some (by kernel_rfl))⟩
  f27 := ⟨Tryd.f200.name, by decide, Tryd.func200.trans (congrArg some (by kernel_rfl))⟩
  f28 := Tryd.func201.trans (congrArg some (by kernel_rfl))
  f29 := Tryd.func202.trans (congrArg some (by kernel_rfl))
  f46 := ⟨Tryd.f211.name, by decide, Tryd.func211.trans (congrArg some (by kernel_rfl))⟩
  f47 := Tryd.func212.trans (congrArg some (by kernel_rfl))
  f48 := Tryd.func213.trans (congrArg some (by kernel_rfl))
  f49 := ⟨Tryd.f214.name, by decide, Tryd.func214.trans (congrArg some (by kernel_rfl))⟩
  f50 := ⟨Tryd.f215.name, by decide, Tryd.func215.trans (congrArg some (by kernel_rfl))⟩
  f57 := ⟨Tryd.f222.name, by decide, Tryd.func222.trans (congrArg some (by kernel_rfl))⟩
  t0 := Tryd.underlying0
  a0 := Tryd.isAgg0
  z0 := Tryd.sizeOf0
  v0 := Tryd.zeroValue0
  t3 := Tryd.underlying3
  a3 := Tryd.isAgg3
  z3 := Tryd.sizeOf3
  v3 := Tryd.zeroValue3
  t4 := Tryd.underlying4
  a4 := Tryd.isAgg4
  z4 := Tryd.sizeOf4
  v4 := Tryd.zeroValue4
  t5 := Tryd.underlying5
  a5 := Tryd.isAgg5
  z5 := Tryd.sizeOf5
  v5 := Tryd.zeroValue5
  t9 := Tryd.underlying9
  a9 := Tryd.isAgg9
  z9 := Tryd.sizeOf9
  v9 := Tryd.zeroValue9
  t22 := Tryd.underlying174
  a22 := Tryd.isAgg174
  z22 := Tryd.sizeOf174
  v22 := Tryd.zeroValue174
  t25 := Tryd.underlying223
  a25 := Tryd.isAgg223
  z25 := Tryd.sizeOf223
  v25 := Tryd.zeroValue223
  t39 := Tryd.underlying193
  a39 := Tryd.isAgg193
  z39 := Tryd.sizeOf193
  v39 := Tryd.zeroValue193
  t45 := Tryd.underlying282
  a45 := Tryd.isAgg282
  z45 := Tryd.sizeOf282
  v45 := Tryd.zeroValue282
  t46 := Tryd.underlying283
  a46 := Tryd.isAgg283
  z46 := Tryd.sizeOf283
  v46 := Tryd.zeroValue283
  t50 := Tryd.underlying187
  a50 := Tryd.isAgg187
  z50 := Tryd.sizeOf187
  v50 := Tryd.zeroValue187
  t53 := Tryd.underlying141
  a53 := Tryd.isAgg141
  z53 := Tryd.sizeOf141
  v53 := Tryd.zeroValue141
  t55 := Tryd.underlying276
  a55 := Tryd.isAgg276
  z55 := Tryd.sizeOf276
  v55 := Tryd.zeroValue276
  t66 := Tryd.underlying296
  a66 := Tryd.isAgg296
  z66 := Tryd.sizeOf296
  v66 := Tryd.zeroValue296
  t70 := Tryd.underlying300
  a70 := Tryd.isAgg300
  z70 := Tryd.sizeOf300
  v70 := Tryd.zeroValue300
  t76 := Tryd.underlying308
  a76 := Tryd.isAgg308
  z76 := Tryd.sizeOf308
  v76 := Tryd.zeroValue308
  t77 := Tryd.underlying129
  a77 := Tryd.isAgg129
  z77 := Tryd.sizeOf129
  v77 := Tryd.zeroValue129 }
end Go.Proofs
