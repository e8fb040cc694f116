import Derived.Test.YtnleldogmogkgaaW33
import Derived.Test.YtnleldogmogkgaaVerW
/-! StoreKeeps' walk, as the row asks for it. -/
namespace Go.Proofs.Ytnleldogmogkgaa
open Go.RowKit
theorem keeps_row (W : World) (l : List SAct) (A : Option Addr) (n cap : Nat) (hl : Sl tAct W (fun _ => True) (.slice A n cap) l) (ho : ∀ a ∈ l, ActOk a) (m : Int) (hm : (Lit.int .u64 m).wf = true) :
    Calls Try.prog 6 #[.slice A n cap, .int .u64 m] W fun e w' => e = .returned (.bool true) ∧ Below W.heap.size W w' := by
  simp [Lit.wf, IntKind.min, IntKind.max, IntKind.signed, IntKind.bits] at hm
  exact keeps_calls l A n cap m W hl ho ⟨by omega, by omega⟩
end Go.Proofs.Ytnleldogmogkgaa
