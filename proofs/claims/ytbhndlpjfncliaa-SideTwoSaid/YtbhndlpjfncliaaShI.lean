/-
  DERIVED: THE SHELF's CONTRACTS AT THIS DUMP, IN PLAIN WORDS (tools/lay-plain.mjs out of 'YtbhndlpjfncliaaShI.lean', which tools/lay-shelf.mjs wrote): THE SAME DECLARATIONS UNDER THE SAME NAMES: 'import', 'namespace', 'open', 'def', 'theorem' AND NOTHING ELSE: no command of the shelf's: FOR A HAND-IN. Each laying: the table of numbers ('.._ren') and one theorem, a field a fact of the dump's own or the kernel's comparison; each contract: ONE APPLICATION.
-/
import Derived.Shelf.SortG.Plain
import Derived.Shelf.SortG.SortNone
import Derived.Ground.SlgnProg
import Derived.Test.YtbhndlpjfncliaaProg
namespace Go.Proofs
open Go.Shelf
def Try.sortI_ren : Go.Shelf.Ren := ⟨fun | 53 => 30 | 64 => 45 | 63 => 44 | 78 => 68 | 79 => 69 | 70 => 59 | 71 => 60 | 72 => 61 | 73 => 62 | 74 => 63 | 75 => 64 | 59 => 65 | 76 => 66 | 77 => 67 | 88 => 85 | 89 => 86 | 90 => 87 | 91 => 88 | 92 => 89 | 68 => 83 | 96 => 94 | n => n, fun | 22 => 22 | 23 => 3 | 3 => 3 | 51 => 101 | 0 => 0 | 67 => 121 | 69 => 123 | 4 => 4 | 61 => 114 | 60 => 113 | 44 => 90 | 5 => 5 | 9 => 9 | 75 => 138 | 79 => 142 | 83 => 149 | 84 => 150 | n => n, fun | n => n⟩
theorem Try.sortI : Go.Proofs.SlLaysN.n53 Try.prog Try.sortI_ren := {
  mixed := by kernel_rfl
  f53 := ⟨Try.f30.name, by decide, Try.func30.trans (congrArg some (by kernel_rfl))⟩
  f59 := ⟨Try.f65.name, by decide, Try.func65.trans (congrArg some (by kernel_rfl))⟩
  f63 := ⟨Try.f44.name, by decide, Try.func44.trans (congrArg some (by kernel_rfl))⟩
  f64 := Try.func45.trans (congrArg some (by kernel_rfl))
  f68 := ⟨Try.f83.name, by decide, Try.func83.trans (congrArg some (by kernel_rfl))⟩
  f70 := ⟨Try.f59.name, by decide, Try.func59.trans (congrArg some (by kernel_rfl))⟩
  f71 := ⟨Try.f60.name, by decide, Try.func60.trans (congrArg some (by kernel_rfl))⟩
  f72 := ⟨Try.f61.name, by decide, Try.func61.trans (congrArg some (by kernel_rfl))⟩
  f73 := ⟨Try.f62.name, by decide, Try.func62.trans (congrArg some (by kernel_rfl))⟩
  f74 := ⟨Try.f63.name, by decide, Try.func63.trans (congrArg some (by kernel_rfl))⟩
  f75 := ⟨Try.f64.name, by decide, Try.func64.trans (congrArg some (by kernel_rfl))⟩
  f76 := ⟨Try.f66.name, by decide, Try.func66.trans (congrArg some (by kernel_rfl))⟩
  f77 := ⟨Try.f67.name, by decide, Try.func67.trans (congrArg some (by kernel_rfl))⟩
  f78 := Try.func68.trans (congrArg some (by kernel_rfl))
  f79 := Try.func69.trans (congrArg some (by kernel_rfl))
  f88 := ⟨Try.f85.name, by decide, Try.func85.trans (congrArg some (by kernel_rfl))⟩
  f89 := Try.func86.trans (congrArg some (by kernel_rfl))
  f90 := Try.func87.trans (congrArg some (by kernel_rfl))
  f91 := ⟨Try.f88.name, by decide, Try.func88.trans (congrArg some (by kernel_rfl))⟩
  f92 := ⟨Try.f89.name, by decide, Try.func89.trans (congrArg some (by kernel_rfl))⟩
  f96 := ⟨Try.f94.name, by decide, Try.func94.trans (congrArg some (by kernel_rfl))⟩
  t0 := Try.underlying0
  a0 := Try.isAgg0
  z0 := Try.sizeOf0
  v0 := Try.zeroValue0
  t3 := Try.underlying3
  a3 := Try.isAgg3
  z3 := Try.sizeOf3
  v3 := Try.zeroValue3
  t4 := Try.underlying4
  a4 := Try.isAgg4
  z4 := Try.sizeOf4
  v4 := Try.zeroValue4
  t5 := Try.underlying5
  a5 := Try.isAgg5
  z5 := Try.sizeOf5
  v5 := Try.zeroValue5
  t9 := Try.underlying9
  a9 := Try.isAgg9
  z9 := Try.sizeOf9
  v9 := Try.zeroValue9
  t22 := Try.underlying22
  a22 := Try.isAgg22
  z22 := Try.sizeOf22
  v22 := Try.zeroValue22
  t23 := Try.underlying3
  a23 := Try.isAgg3
  z23 := Try.sizeOf3
  v23 := Try.zeroValue3
  t44 := Try.underlying90
  a44 := Try.isAgg90
  z44 := Try.sizeOf90
  v44 := Try.zeroValue90
  t51 := Try.underlying101
  a51 := Try.isAgg101
  z51 := Try.sizeOf101
  v51 := Try.zeroValue101
  t60 := Try.underlying113
  a60 := Try.isAgg113
  z60 := Try.sizeOf113
  v60 := Try.zeroValue113
  t61 := Try.underlying114
  a61 := Try.isAgg114
  z61 := Try.sizeOf114
  v61 := Try.zeroValue114
  t67 := Try.underlying121
  a67 := Try.isAgg121
  z67 := Try.sizeOf121
  v67 := Try.zeroValue121
  t69 := Try.underlying123
  a69 := Try.isAgg123
  z69 := Try.sizeOf123
  v69 := Try.zeroValue123
  t75 := Try.underlying138
  a75 := Try.isAgg138
  z75 := Try.sizeOf138
  v75 := Try.zeroValue138
  t79 := Try.underlying142
  a79 := Try.isAgg142
  z79 := Try.sizeOf142
  v79 := Try.zeroValue142
  t83 := Try.underlying149
  a83 := Try.isAgg149
  z83 := Try.sizeOf149
  v83 := Try.zeroValue149
  t84 := Try.underlying150
  a84 := Try.isAgg150
  z84 := Try.sizeOf150
  v84 := Try.zeroValue150 }
end Go.Proofs
