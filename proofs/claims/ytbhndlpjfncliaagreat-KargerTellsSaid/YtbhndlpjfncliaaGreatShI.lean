/-
  DERIVED: THE SHELF's CONTRACTS AT THIS DUMP, IN PLAIN WORDS (tools/lay-plain.mjs out of 'YtbhndlpjfncliaaGreatShI.lean', which tools/lay-shelf.mjs wrote): THE SAME DECLARATIONS UNDER THE SAME NAMES: 'import', 'namespace', 'open', 'def', 'theorem' AND NOTHING ELSE: no command of the shelf's: FOR A HAND-IN. Each laying: the table of numbers ('.._ren') and one theorem, a field a fact of the dump's own or the kernel's comparison; each contract: ONE APPLICATION.
-/
import Derived.Shelf.SortG.Plain
import Derived.Shelf.SortG.SortNone
import Derived.Ground.SlgnProg
import Derived.Test.YtbhndlpjfncliaaGreatProg
namespace Go.Proofs
open Go.Shelf
def Tryz.sortI_ren : Go.Shelf.Ren := ⟨fun | 53 => 41 | 64 => 74 | 63 => 73 | 78 => 109 | 79 => 110 | 70 => 100 | 71 => 101 | 72 => 102 | 73 => 103 | 74 => 104 | 75 => 105 | 59 => 106 | 76 => 107 | 77 => 108 | 88 => 128 | 89 => 129 | 90 => 130 | 91 => 131 | 92 => 132 | 68 => 113 | 96 => 147 | n => n, fun | 22 => 33 | 23 => 3 | 3 => 3 | 51 => 105 | 0 => 0 | 67 => 181 | 69 => 53 | 4 => 4 | 61 => 175 | 60 => 174 | 44 => 133 | 5 => 5 | 9 => 9 | 75 => 196 | 79 => 199 | 83 => 212 | 84 => 213 | n => n, fun | n => n⟩
theorem Tryz.sortI : Go.Proofs.SlLaysN.n53 Tryz.prog Tryz.sortI_ren := {
  mixed := by kernel_rfl
  f53 := ⟨Tryz.f41.name, by decide, Tryz.func41.trans (congrArg some (by kernel_rfl))⟩
  f59 := ⟨Tryz.f106.name, by decide, Tryz.func106.trans (congrArg some (by kernel_rfl))⟩
  f63 := ⟨Tryz.f73.name, by decide, Tryz.func73.trans (congrArg some (by kernel_rfl))⟩
  f64 := Tryz.func74.trans (congrArg some (by kernel_rfl))
  f68 := ⟨Tryz.f113.name, by decide, Tryz.func113.trans (congrArg some (by kernel_rfl))⟩
  f70 := ⟨Tryz.f100.name, by decide, Tryz.func100.trans (congrArg some (by kernel_rfl))⟩
  f71 := ⟨Tryz.f101.name, by decide, Tryz.func101.trans (congrArg some (by kernel_rfl))⟩
  f72 := ⟨Tryz.f102.name, by decide, Tryz.func102.trans (congrArg some (by kernel_rfl))⟩
  f73 := ⟨Tryz.f103.name, by decide, Tryz.func103.trans (congrArg some (by kernel_rfl))⟩
  f74 := ⟨Tryz.f104.name, by decide, Tryz.func104.trans (congrArg some (by kernel_rfl))⟩
  f75 := ⟨Tryz.f105.name, by decide, Tryz.func105.trans (congrArg some (by kernel_rfl))⟩
  f76 := ⟨Tryz.f107.name, by decide, Tryz.func107.trans (congrArg some (by kernel_rfl))⟩
  f77 := ⟨Tryz.f108.name, by decide, Tryz.func108.trans (congrArg some (by kernel_rfl))⟩
  f78 := Tryz.func109.trans (congrArg some (by kernel_rfl))
  f79 := Tryz.func110.trans (congrArg some (by kernel_rfl))
  f88 := ⟨Tryz.f128.name, by decide, Tryz.func128.trans (congrArg some (by kernel_rfl))⟩
  f89 := Tryz.func129.trans (congrArg some (by kernel_rfl))
  f90 := Tryz.func130.trans (congrArg some (by kernel_rfl))
  f91 := ⟨Tryz.f131.name, by decide, Tryz.func131.trans (congrArg some (by kernel_rfl))⟩
  f92 := ⟨Tryz.f132.name, by decide, Tryz.func132.trans (congrArg some (by kernel_rfl))⟩
  f96 := ⟨Tryz.f147.name, by decide, Tryz.func147.trans (congrArg some (by kernel_rfl))⟩
  t0 := Tryz.underlying0
  a0 := Tryz.isAgg0
  z0 := Tryz.sizeOf0
  v0 := Tryz.zeroValue0
  t3 := Tryz.underlying3
  a3 := Tryz.isAgg3
  z3 := Tryz.sizeOf3
  v3 := Tryz.zeroValue3
  t4 := Tryz.underlying4
  a4 := Tryz.isAgg4
  z4 := Tryz.sizeOf4
  v4 := Tryz.zeroValue4
  t5 := Tryz.underlying5
  a5 := Tryz.isAgg5
  z5 := Tryz.sizeOf5
  v5 := Tryz.zeroValue5
  t9 := Tryz.underlying9
  a9 := Tryz.isAgg9
  z9 := Tryz.sizeOf9
  v9 := Tryz.zeroValue9
  t22 := Tryz.underlying33
  a22 := Tryz.isAgg33
  z22 := Tryz.sizeOf33
  v22 := Tryz.zeroValue33
  t23 := Tryz.underlying3
  a23 := Tryz.isAgg3
  z23 := Tryz.sizeOf3
  v23 := Tryz.zeroValue3
  t44 := Tryz.underlying133
  a44 := Tryz.isAgg133
  z44 := Tryz.sizeOf133
  v44 := Tryz.zeroValue133
  t51 := Tryz.underlying105
  a51 := Tryz.isAgg105
  z51 := Tryz.sizeOf105
  v51 := Tryz.zeroValue105
  t60 := Tryz.underlying174
  a60 := Tryz.isAgg174
  z60 := Tryz.sizeOf174
  v60 := Tryz.zeroValue174
  t61 := Tryz.underlying175
  a61 := Tryz.isAgg175
  z61 := Tryz.sizeOf175
  v61 := Tryz.zeroValue175
  t67 := Tryz.underlying181
  a67 := Tryz.isAgg181
  z67 := Tryz.sizeOf181
  v67 := Tryz.zeroValue181
  t69 := Tryz.underlying53
  a69 := Tryz.isAgg53
  z69 := Tryz.sizeOf53
  v69 := Tryz.zeroValue53
  t75 := Tryz.underlying196
  a75 := Tryz.isAgg196
  z75 := Tryz.sizeOf196
  v75 := Tryz.zeroValue196
  t79 := Tryz.underlying199
  a79 := Tryz.isAgg199
  z79 := Tryz.sizeOf199
  v79 := Tryz.zeroValue199
  t83 := Tryz.underlying212
  a83 := Tryz.isAgg212
  z83 := Tryz.sizeOf212
  v83 := Tryz.zeroValue212
  t84 := Tryz.underlying213
  a84 := Tryz.isAgg213
  z84 := Tryz.sizeOf213
  v84 := Tryz.zeroValue213 }
end Go.Proofs
