import Derived.Test.YtkfndmbnfhhbiaaW12
import Derived.Test.YtkfndmbnfhhbiaaVerW
/-! BufferNone's walk, as the row asks for it. -/
namespace Go.Proofs.Ytkfndmbnfhhbiaa
open Go.RowKit
theorem none_row (W : World) (x : Pair) (cs : Array Value) (hx : tPair.K W (fun _ => True) x cs.toList) (hk : x.key.size ≤ 140737488351232 ∧ x.val.size ≤ 140737488351232) (l : List Pair) (A : Option Addr) (n cap : Nat) (hl : Sl tPair W (fun _ => True) (.slice A n cap) l) (hs : Short l) :
    Calls Try.prog 8 #[.agg cs, .slice A n cap] W fun e w' => e = .returned (.bool true) ∧ Below W.heap.size W w' := by
  obtain rfl : cs = #[.string x.key, .string x.val, .bool x.dead] := by
    have h : cs.toList = x.enc := hx
    rw [← Array.toArray_toList (xs := cs), h]; rfl
  exact none_calls x l A n cap W hk.1 hk.2 hl hs
end Go.Proofs.Ytkfndmbnfhhbiaa
