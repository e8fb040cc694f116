import Derived.Test.YtkfndmbnfhhbiaaW10
import Derived.Test.YtkfndmbnfhhbiaaVerW
/-! BufferLast's walk, as the row asks for it. -/
namespace Go.Proofs.Ytkfndmbnfhhbiaa
open Go.RowKit
theorem last_row (W : World) (l : List Pair) (A : Option Addr) (n cap : Nat) (hl : Sl tPair W (fun _ => True) (.slice A n cap) l) (hs : Short l) (k : ByteArray) (hk : k.size ≤ 140737488351232) :
    Calls Try.prog 7 #[.slice A n cap, .string k] W fun e w' => e = .returned (.bool true) ∧ Below W.heap.size W w' :=
  last_calls l A n cap k W hl hs hk
end Go.Proofs.Ytkfndmbnfhhbiaa
