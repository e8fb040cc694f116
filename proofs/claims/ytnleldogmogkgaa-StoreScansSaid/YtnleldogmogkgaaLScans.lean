import Derived.Test.YtnleldogmogkgaaW36
import Derived.Test.YtnleldogmogkgaaVerW
/-! StoreScans' walk, as the row asks for it. -/
namespace Go.Proofs.Ytnleldogmogkgaa
open Go.RowKit
theorem scans_row (W : World) (l : List SAct) (A : Option Addr) (n cap : Nat) (hl : Sl tAct W (fun _ => True) (.slice A n cap) l) (ho : ∀ a ∈ l, ActOk a) (a : SAct) (cs : Array Value) (ha : tAct.K W (fun _ => True) a cs.toList) (hoa : ActOk a) :
    Calls Try.prog 3 #[.slice A n cap, .agg cs] W fun e w' => e = .returned (.bool true) ∧ Below W.heap.size W w' := by
  obtain ⟨P, np, cp, rfl, hp⟩ := act_arg ha
  exact scans_calls l A n cap a P np cp W hl ho hp hoa
end Go.Proofs.Ytnleldogmogkgaa
