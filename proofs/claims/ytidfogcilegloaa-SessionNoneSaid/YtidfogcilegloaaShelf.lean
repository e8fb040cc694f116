/-
  DERIVED: THE SHELF's CONTRACTS AT THIS DUMP, IN PLAIN WORDS (tools/lay-plain.mjs out of 'YtidfogcilegloaaLay.lean', which tools/lay-shelf.mjs wrote): THE SAME DECLARATIONS UNDER THE SAME NAMES: 'import', 'namespace', 'open', 'def', 'theorem' AND NOTHING ELSE: no command of the shelf's: FOR A HAND-IN. Each laying: the table of numbers ('.._ren') and one theorem, a field a fact of the dump's own or the kernel's comparison; each contract: ONE APPLICATION.
-/
import Derived.Shelf.Spec.SlicesInsert
import Derived.Shelf.Spec.SlicesInsertGrow
import Derived.Shelf.Spec.SearchS
import Derived.Shelf.SlGeneric
import Derived.Ground.Names2Prog
import Derived.Test.YtidfogcilegloaaProg
namespace Go.Proofs.Ytidfogcilegloaa
open Go.Shelf
def insS_ren : Go.Shelf.Ren := ⟨fun | 22 => 40 | 29 => 57 | 30 => 58 | 36 => 70 | 17 => 75 | n => n, fun | 24 => 71 | 9 => 9 | 3 => 3 | 4 => 4 | 0 => 0 | n => n, fun | n => n⟩
theorem insS : Go.Proofs.Lays2.n22 Try.prog insS_ren := {
  mixed := by kernel_rfl
  f17 := Try.func75.trans (congrArg some (by kernel_rfl))
  f22 := Try.func40.trans (congrArg some (by kernel_rfl))
  f29 := Try.func57.trans (congrArg some (by kernel_rfl))
  f30 := Try.func58.trans (congrArg some (by kernel_rfl))
  f36 := Try.func70.trans (congrArg some (by kernel_rfl))
  t0 := Try.underlying0
  a0 := Try.isAgg0
  z0 := Try.sizeOf0
  v0 := Try.zeroValue0
  t3 := Try.underlying3
  a3 := Try.isAgg3
  z3 := Try.sizeOf3
  v3 := Try.zeroValue3
  t4 := Try.underlying4
  a4 := Try.isAgg4
  z4 := Try.sizeOf4
  v4 := Try.zeroValue4
  t9 := Try.underlying9
  a9 := Try.isAgg9
  z9 := Try.sizeOf9
  v9 := Try.zeroValue9
  t24 := Try.underlying71
  a24 := Try.isAgg71
  z24 := Try.sizeOf71
  v24 := Try.zeroValue71
  i9 := by kernel_rfl }
def bsS_ren : Go.Shelf.Ren := ⟨fun | 26 => 39 | 33 => 55 | 34 => 56 | 38 => 69 | n => n, fun | 24 => 71 | 9 => 9 | 3 => 3 | 4 => 4 | 40 => 22 | 0 => 0 | n => n, fun | n => n⟩
theorem bsS : Go.Proofs.Lays2.n26 Try.prog bsS_ren := {
  mixed := by kernel_rfl
  f26 := Try.func39.trans (congrArg some (by kernel_rfl))
  f33 := Try.func55.trans (congrArg some (by kernel_rfl))
  f34 := Try.func56.trans (congrArg some (by kernel_rfl))
  f38 := Try.func69.trans (congrArg some (by kernel_rfl))
  t0 := Try.underlying0
  a0 := Try.isAgg0
  z0 := Try.sizeOf0
  v0 := Try.zeroValue0
  t3 := Try.underlying3
  a3 := Try.isAgg3
  z3 := Try.sizeOf3
  v3 := Try.zeroValue3
  t4 := Try.underlying4
  a4 := Try.isAgg4
  z4 := Try.sizeOf4
  v4 := Try.zeroValue4
  t9 := Try.underlying9
  a9 := Try.isAgg9
  z9 := Try.sizeOf9
  v9 := Try.zeroValue9
  t24 := Try.underlying71
  a24 := Try.isAgg71
  z24 := Try.sizeOf71
  v24 := Try.zeroValue71
  t40 := Try.underlying22
  a40 := Try.isAgg22
  z40 := Try.sizeOf22
  v40 := Try.zeroValue22 }
end Go.Proofs.Ytidfogcilegloaa
