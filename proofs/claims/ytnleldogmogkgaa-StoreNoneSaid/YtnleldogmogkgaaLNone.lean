import Derived.Test.YtnleldogmogkgaaW19
import Derived.Test.YtnleldogmogkgaaVerW
/-! StoreNone's walk, as the row asks for it. -/
namespace Go.Proofs.Ytnleldogmogkgaa
open Go.RowKit
theorem none_row (W : World) (a : SAct) (cs : Array Value) (ha : tAct.K W (fun _ => True) a cs.toList) (ho : ActOk a) :
    Calls Try.prog 9 #[.agg cs] W fun e w' => e = .returned (.bool true) ∧ Below W.heap.size W w' := by
  obtain ⟨P, np, cp, rfl, hp⟩ := act_arg ha
  exact none_calls a P np cp W hp ho
end Go.Proofs.Ytnleldogmogkgaa
