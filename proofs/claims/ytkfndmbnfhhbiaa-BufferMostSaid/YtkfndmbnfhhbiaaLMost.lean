import Derived.Test.YtkfndmbnfhhbiaaW20
import Derived.Test.YtkfndmbnfhhbiaaVerW
/-! BufferMost's walk, as the row asks for it. -/
namespace Go.Proofs.Ytkfndmbnfhhbiaa
open Go.RowKit
theorem most_row (W : World) (m : Int) (hm : (Lit.int .u64 m).wf = true) (k : ByteArray) (hk : k.size ≤ 140737488351232) :
    Calls Try.prog 4 #[.int .u64 m, .string k] W fun e w' => e = .returned (.bool true) ∧ Below W.heap.size W w' :=
  most_calls m k W (by simp [Lit.wf, IntKind.min, IntKind.max, IntKind.signed, IntKind.bits] at hm; omega) hk
end Go.Proofs.Ytkfndmbnfhhbiaa
