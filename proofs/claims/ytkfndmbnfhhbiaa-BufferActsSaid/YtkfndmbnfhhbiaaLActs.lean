import Derived.Test.YtkfndmbnfhhbiaaW18
import Derived.Test.YtkfndmbnfhhbiaaVerW
/-! BufferActs' walk, as the row asks for it. -/
namespace Go.Proofs.Ytkfndmbnfhhbiaa
open Go.RowKit
theorem acts_row (W : World) (l : List Pair) (A : Option Addr) (n cap : Nat) (hl : Sl tPair W (fun _ => True) (.slice A n cap) l) (hs : Short l) :
    Calls Try.prog 6 #[.slice A n cap] W fun e w' => e = .returned (.bool true) ∧ Below W.heap.size W w' :=
  acts_calls l A n cap W hl hs
end Go.Proofs.Ytkfndmbnfhhbiaa
