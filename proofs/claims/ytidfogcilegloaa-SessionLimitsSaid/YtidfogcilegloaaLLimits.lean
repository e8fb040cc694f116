import Derived.Test.YtidfogcilegloaaS11
/-! SessionLimits' walk, as the row asks for it. -/
namespace Go.Proofs.Ytidfogcilegloaa
open Go.RowKit
theorem limits_row (W : World) (a : Int) (ha : (Lit.int .u64 a).wf = true) (k : ByteArray) (hk : k.size ≤ 140737488351232) :
    Calls Try.prog 3 #[.int .u64 a, .string k] W fun e w' => e = .returned (.bool true) ∧ Below W.heap.size W w' :=
  limits_calls a (by simp [Lit.wf, IntKind.min, IntKind.max, IntKind.signed, IntKind.bits] at ha; omega) (by simp [Lit.wf, IntKind.min, IntKind.max, IntKind.signed, IntKind.bits] at ha; omega) k hk W
end Go.Proofs.Ytidfogcilegloaa
