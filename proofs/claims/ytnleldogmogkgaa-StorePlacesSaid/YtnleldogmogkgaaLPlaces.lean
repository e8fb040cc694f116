import Derived.Test.YtnleldogmogkgaaW23
import Derived.Test.YtnleldogmogkgaaVerW
/-! StorePlaces' walk, as the row asks for it. -/
namespace Go.Proofs.Ytnleldogmogkgaa
open Go.RowKit
theorem places_row (W : World) (l : List SAct) (A : Option Addr) (n cap : Nat) (hl : Sl tAct W (fun _ => True) (.slice A n cap) l) (ho : ∀ a ∈ l, ActOk a) (m : Int) (_ : (Lit.int .i64 m).wf = true) (k : ByteArray) (hk : k.size ≤ 140737488351232) :
    Calls Try.prog 5 #[.slice A n cap, .int .i64 m, .string k] W fun e w' => e = .returned (.bool true) ∧ Below W.heap.size W w' :=
  places_calls l A n cap m k W hl ho hk
end Go.Proofs.Ytnleldogmogkgaa
