/-
  DERIVED: THE SHELF's CONTRACTS AT THIS DUMP, IN PLAIN WORDS (tools/lay-plain.mjs out of 'TryfShelf.lean', which tools/lay-shelf.mjs wrote): THE SAME DECLARATIONS UNDER THE SAME NAMES: 'import', 'namespace', 'open', 'def', 'theorem' AND NOTHING ELSE: no command of the shelf's: FOR A HAND-IN. Each laying: the table of numbers ('.._ren') and one theorem, a field a fact of the dump's own or the kernel's comparison; each contract: ONE APPLICATION.
-/
import Derived.Shelf.SortG.Plain
import Derived.Shelf.SortG.SortNone
import Derived.Ground.SlgnProg
import Derived.Test.YtjflkmihkfbgpaaProg
namespace Go.Proofs
open Go.Shelf
def Ytjflkmihkfbgpaa.sortS_ren : Go.Shelf.Ren := ⟨fun | 54 => 47 | 64 => 56 | 65 => 55 | 78 => 68 | 79 => 69 | 80 => 59 | 81 => 60 | 82 => 61 | 83 => 62 | 84 => 63 | 85 => 64 | 61 => 65 | 86 => 66 | 87 => 67 | 93 => 70 | 89 => 71 | 90 => 72 | 94 => 73 | 95 => 74 | 69 => 75 | 97 => 76 | n => n, fun | 25 => 52 | 26 => 9 | 3 => 3 | 51 => 87 | 0 => 0 | 67 => 100 | 69 => 102 | 4 => 4 | 61 => 92 | 60 => 91 | 44 => 97 | 5 => 5 | 9 => 9 | 75 => 103 | 79 => 107 | 83 => 109 | 84 => 110 | n => n, fun | n => n⟩
theorem Ytjflkmihkfbgpaa.sortS : Go.Proofs.SlLaysN.n54 Try.prog Ytjflkmihkfbgpaa.sortS_ren := {
  mixed := by kernel_rfl
  f54 := ⟨Try.f47.name, by decide, Try.func47.trans (congrArg some (by kernel_rfl))⟩
  f61 := ⟨Try.f65.name, by decide, Try.func65.trans (congrArg some (by kernel_rfl))⟩
  f64 := Try.func56.trans (congrArg some (by kernel_rfl))
  f65 := ⟨Try.f55.name, by decide, Try.func55.trans (congrArg some (by kernel_rfl))⟩
  f69 := ⟨Try.f75.name, by decide, Try.func75.trans (congrArg some (by kernel_rfl))⟩
  f78 := Try.func68.trans (congrArg some (by kernel_rfl))
  f79 := Try.func69.trans (congrArg some (by kernel_rfl))
  f80 := ⟨Try.f59.name, by decide, Try.func59.trans (congrArg some (by kernel_rfl))⟩
  f81 := ⟨Try.f60.name, by decide, Try.func60.trans (congrArg some (by kernel_rfl))⟩
  f82 := ⟨Try.f61.name, by decide, Try.func61.trans (congrArg some (by kernel_rfl))⟩
  f83 := ⟨Try.f62.name, by decide, Try.func62.trans (congrArg some (by kernel_rfl))⟩
  f84 := ⟨Try.f63.name, by decide, Try.func63.trans (congrArg some (by kernel_rfl))⟩
  f85 := ⟨Try.f64.name, by decide, Try.func64.trans (congrArg some (by kernel_rfl))⟩
  f86 := ⟨Try.f66.name, by decide, Try.func66.trans (congrArg some (by kernel_rfl))⟩
  f87 := ⟨Try.f67.name, by decide, Try.func67.trans (congrArg some (by kernel_rfl))⟩
  f89 := Try.func71.trans (congrArg some (by kernel_rfl))
  f90 := Try.func72.trans (congrArg some (by kernel_rfl))
  f93 := ⟨Try.f70.name, by decide, Try.func70.trans (congrArg some (by kernel_rfl))⟩
  f94 := ⟨Try.f73.name, by decide, Try.func73.trans (congrArg some (by kernel_rfl))⟩
  f95 := ⟨Try.f74.name, by decide, Try.func74.trans (congrArg some (by kernel_rfl))⟩
  f97 := ⟨Try.f76.name, by decide, Try.func76.trans (congrArg some (by kernel_rfl))⟩
  t0 := Try.underlying0
  a0 := Try.isAgg0
  z0 := Try.sizeOf0
  v0 := Try.zeroValue0
  t3 := Try.underlying3
  a3 := Try.isAgg3
  z3 := Try.sizeOf3
  v3 := Try.zeroValue3
  t4 := Try.underlying4
  a4 := Try.isAgg4
  z4 := Try.sizeOf4
  v4 := Try.zeroValue4
  t5 := Try.underlying5
  a5 := Try.isAgg5
  z5 := Try.sizeOf5
  v5 := Try.zeroValue5
  t9 := Try.underlying9
  a9 := Try.isAgg9
  z9 := Try.sizeOf9
  v9 := Try.zeroValue9
  t25 := Try.underlying52
  a25 := Try.isAgg52
  z25 := Try.sizeOf52
  v25 := Try.zeroValue52
  t26 := Try.underlying9
  a26 := Try.isAgg9
  z26 := Try.sizeOf9
  v26 := Try.zeroValue9
  t44 := Try.underlying97
  a44 := Try.isAgg97
  z44 := Try.sizeOf97
  v44 := Try.zeroValue97
  t51 := Try.underlying87
  a51 := Try.isAgg87
  z51 := Try.sizeOf87
  v51 := Try.zeroValue87
  t60 := Try.underlying91
  a60 := Try.isAgg91
  z60 := Try.sizeOf91
  v60 := Try.zeroValue91
  t61 := Try.underlying92
  a61 := Try.isAgg92
  z61 := Try.sizeOf92
  v61 := Try.zeroValue92
  t67 := Try.underlying100
  a67 := Try.isAgg100
  z67 := Try.sizeOf100
  v67 := Try.zeroValue100
  t69 := Try.underlying102
  a69 := Try.isAgg102
  z69 := Try.sizeOf102
  v69 := Try.zeroValue102
  t75 := Try.underlying103
  a75 := Try.isAgg103
  z75 := Try.sizeOf103
  v75 := Try.zeroValue103
  t79 := Try.underlying107
  a79 := Try.isAgg107
  z79 := Try.sizeOf107
  v79 := Try.zeroValue107
  t83 := Try.underlying109
  a83 := Try.isAgg109
  z83 := Try.sizeOf109
  v83 := Try.zeroValue109
  t84 := Try.underlying110
  a84 := Try.isAgg110
  z84 := Try.sizeOf110
  v84 := Try.zeroValue110 }
end Go.Proofs
