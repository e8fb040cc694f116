/-
  DERIVED: THE SHELF's CONTRACTS AT THIS DUMP, IN PLAIN WORDS (tools/lay-plain.mjs out of 'TryShelf08.lean', which tools/lay-shelf.mjs wrote): THE SAME DECLARATIONS UNDER THE SAME NAMES: 'import', 'namespace', 'open', 'def', 'theorem' AND NOTHING ELSE: no command of the shelf's: FOR A HAND-IN. Each laying: the table of numbers ('.._ren') and one theorem, a field a fact of the dump's own or the kernel's comparison; each contract: ONE APPLICATION.
-/
import Derived.Shelf.Spec.SlicesInsert
import Derived.Shelf.Spec.SlicesInsertGrow
import Derived.Shelf.Spec.SearchS
import Derived.Shelf.SlicesE.DeleteFunc
import Derived.Shelf.SlMaps.Clone
import Derived.Shelf.SlGeneric
import Derived.Ground.Names2Prog
import Derived.Ground.SlgfProg
import Derived.Ground.SlmcProg
import Derived.Test.YtnleldogmogkgaaProg
namespace Go.Proofs.Ytnleldogmogkgaa
open Go.Shelf
def insS_ren : Go.Shelf.Ren := ⟨fun | 22 => 32 | 29 => 51 | 30 => 52 | 36 => 67 | 17 => 71 | n => n, fun | 24 => 30 | 9 => 9 | 3 => 3 | 4 => 4 | 0 => 0 | n => n, fun | n => n⟩
theorem insS : Go.Proofs.Lays2.n22 Try.prog insS_ren := {
  mixed := by kernel_rfl
  f17 := Try.func71.trans (congrArg some (by kernel_rfl))
  f22 := Try.func32.trans (congrArg some (by kernel_rfl))
  f29 := Try.func51.trans (congrArg some (by kernel_rfl))
  f30 := Try.func52.trans (congrArg some (by kernel_rfl))
  f36 := Try.func67.trans (congrArg some (by kernel_rfl))
  t0 := Try.underlying0
  a0 := Try.isAgg0
  z0 := Try.sizeOf0
  v0 := Try.zeroValue0
  t3 := Try.underlying3
  a3 := Try.isAgg3
  z3 := Try.sizeOf3
  v3 := Try.zeroValue3
  t4 := Try.underlying4
  a4 := Try.isAgg4
  z4 := Try.sizeOf4
  v4 := Try.zeroValue4
  t9 := Try.underlying9
  a9 := Try.isAgg9
  z9 := Try.sizeOf9
  v9 := Try.zeroValue9
  t24 := Try.underlying30
  a24 := Try.isAgg30
  z24 := Try.sizeOf30
  v24 := Try.zeroValue30
  i9 := by kernel_rfl }
def bsS_ren : Go.Shelf.Ren := ⟨fun | 26 => 31 | 33 => 49 | 34 => 50 | 38 => 66 | n => n, fun | 24 => 30 | 9 => 9 | 3 => 3 | 4 => 4 | 40 => 48 | 0 => 0 | n => n, fun | n => n⟩
theorem bsS : Go.Proofs.Lays2.n26 Try.prog bsS_ren := {
  mixed := by kernel_rfl
  f26 := Try.func31.trans (congrArg some (by kernel_rfl))
  f33 := Try.func49.trans (congrArg some (by kernel_rfl))
  f34 := Try.func50.trans (congrArg some (by kernel_rfl))
  f38 := Try.func66.trans (congrArg some (by kernel_rfl))
  t0 := Try.underlying0
  a0 := Try.isAgg0
  z0 := Try.sizeOf0
  v0 := Try.zeroValue0
  t3 := Try.underlying3
  a3 := Try.isAgg3
  z3 := Try.sizeOf3
  v3 := Try.zeroValue3
  t4 := Try.underlying4
  a4 := Try.isAgg4
  z4 := Try.sizeOf4
  v4 := Try.zeroValue4
  t9 := Try.underlying9
  a9 := Try.isAgg9
  z9 := Try.sizeOf9
  v9 := Try.zeroValue9
  t24 := Try.underlying30
  a24 := Try.isAgg30
  z24 := Try.sizeOf30
  v24 := Try.zeroValue30
  t40 := Try.underlying48
  a40 := Try.isAgg48
  z40 := Try.sizeOf48
  v40 := Try.zeroValue48 }
def delF_ren : Go.Shelf.Ren := ⟨fun | 10 => 40 | 6 => 59 | n => n, fun | 22 => 30 | 23 => 9 | 25 => 78 | 3 => 3 | 4 => 4 | 0 => 0 | n => n, fun | n => n⟩
theorem delF : Go.Proofs.SlLaysH.n10 Try.prog delF_ren := {
  mixed := by kernel_rfl
  f6 := ⟨Try.f59.name, by decide, Try.func59.trans (congrArg some (by kernel_rfl))⟩
  f10 := ⟨Try.f40.name, by decide, Try.func40.trans (congrArg some (by kernel_rfl))⟩
  t0 := Try.underlying0
  a0 := Try.isAgg0
  z0 := Try.sizeOf0
  v0 := Try.zeroValue0
  t3 := Try.underlying3
  a3 := Try.isAgg3
  z3 := Try.sizeOf3
  v3 := Try.zeroValue3
  t4 := Try.underlying4
  a4 := Try.isAgg4
  z4 := Try.sizeOf4
  v4 := Try.zeroValue4
  t22 := Try.underlying30
  a22 := Try.isAgg30
  z22 := Try.sizeOf30
  v22 := Try.zeroValue30
  a23 := Try.isAgg9
  z23 := Try.sizeOf9
  t25 := Try.underlying78
  a25 := Try.isAgg78
  z25 := Try.sizeOf78
  v25 := Try.zeroValue78 }
def mcln_ren : Go.Shelf.Ren := ⟨fun | 5 => 46 | 7 => 64 | n => n, fun | 23 => 55 | 25 => 9 | 3 => 61 | 4 => 4 | 20 => 20 | n => n, fun | n => n⟩
theorem mcln : Go.Proofs.SlLaysW.n5 Try.prog mcln_ren := {
  mixed := by kernel_rfl
  f5 := ⟨Try.f46.name, by decide, Try.func46.trans (congrArg some (by kernel_rfl))⟩
  f7 := Try.func64.trans (congrArg some (by kernel_rfl))
  t4 := Try.underlying4
  a4 := Try.isAgg4
  z4 := Try.sizeOf4
  v4 := Try.zeroValue4
  t20 := Try.underlying20
  a20 := Try.isAgg20
  z20 := Try.sizeOf20
  v20 := Try.zeroValue20
  t23 := Try.underlying55
  a23 := Try.isAgg55
  z23 := Try.sizeOf55
  v23 := Try.zeroValue55 }
end Go.Proofs.Ytnleldogmogkgaa
