import Derived.Test.YtnleldogmogkgaaW30
import Derived.Test.YtnleldogmogkgaaVerW
/-! StoreWrote's walk, as the row asks for it. -/
namespace Go.Proofs.Ytnleldogmogkgaa
open Go.RowKit
theorem wrote_row (W : World) (l : List SAct) (A : Option Addr) (n cap : Nat) (hl : Sl tAct W (fun _ => True) (.slice A n cap) l) (ho : ∀ a ∈ l, ActOk a) (a : SAct) (cs : Array Value) (ha : tAct.K W (fun _ => True) a cs.toList) (hoa : ActOk a) (k : ByteArray) (hk : k.size ≤ 140737488351232) :
    Calls Try.prog 4 #[.slice A n cap, .agg cs, .string k] W fun e w' => e = .returned (.bool true) ∧ Below W.heap.size W w' := by
  obtain ⟨P, np, cp, rfl, hp⟩ := act_arg ha
  exact wrotes_calls l A n cap a P np cp k W hl ho hp hoa hk
end Go.Proofs.Ytnleldogmogkgaa
