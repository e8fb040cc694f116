import Derived.Test.YtkfndmbnfhhbiaaW11
import Derived.Test.YtkfndmbnfhhbiaaVerW
/-! BufferLays' walk, as the row asks for it. -/
namespace Go.Proofs.Ytkfndmbnfhhbiaa
open Go.RowKit
theorem lays_row (W : World) (l : List Pair) (A : Option Addr) (n cap : Nat) (hl : Sl tPair W (fun _ => True) (.slice A n cap) l) (hs : Short l) (m : List Pair) (B : Option Addr) (k d : Nat) (hm : Sl tPair W (fun _ => True) (.slice B k d) m) (hsm : Short m) :
    Calls Try.prog 5 #[.slice A n cap, .slice B k d] W fun e w' => e = .returned (.bool true) ∧ Below W.heap.size W w' :=
  lays_calls l A n cap m B k d W hl hs hm hsm
end Go.Proofs.Ytkfndmbnfhhbiaa
