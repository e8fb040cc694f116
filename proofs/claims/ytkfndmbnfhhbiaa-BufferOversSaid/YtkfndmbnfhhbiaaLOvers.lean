import Derived.Test.YtkfndmbnfhhbiaaW19
import Derived.Test.YtkfndmbnfhhbiaaVerX
/-! BufferOvers' walk, as the row asks for it. -/
namespace Go.Proofs.Ytkfndmbnfhhbiaa
open Go.RowKit
theorem overs_row (W : World) (l : List Pair) (A : Option Addr) (n cap : Nat) (hl : Sl tPair W (fun _ => True) (.slice A n cap) l) (hs : Short l)
    (m : List Pair) (B : Option Addr) (k d : Nat) (hm : Sl tPair W (fun _ => True) (.slice B k d) m) (hsm : Short m)
    (x : ByteArray × ByteArray × Int) (cs : Array Value) (hx : tRange.K W (fun _ => True) x cs.toList) (hk : x.1.size ≤ 140737488351232 ∧ x.2.1.size ≤ 140737488351232) :
    Calls Try.prog 3 #[.slice A n cap, .slice B k d, .agg cs] W fun e w' => e = .returned (.bool true) ∧ Below W.heap.size W w' := by
  rw [range_arg hx]
  exact overs_calls l A n cap m B k d x.1 x.2.1 x.2.2 W hl hs hm hsm hk.1 hk.2
end Go.Proofs.Ytkfndmbnfhhbiaa
