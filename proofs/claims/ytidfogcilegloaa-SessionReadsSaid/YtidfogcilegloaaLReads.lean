import Derived.Test.YtidfogcilegloaaS14
import Derived.Test.YtidfogcilegloaaVerW
/-! SessionReads' walk, as the row asks for it. -/
namespace Go.Proofs.Ytidfogcilegloaa
open Go.RowKit
theorem reads_row (W : World) (l : List LAct) (A : Option Addr) (n cap : Nat) (hl : Sl tLAct W (fun _ => True) (.slice A n cap) l) (ho : ∀ a ∈ l, LActOk a) (m : List LAct) (B : Option Addr) (k d : Nat) (hm : Sl tLAct W (fun _ => True) (.slice B k d) m) (hq : ∀ a ∈ m, LActOk a) :
    Calls Try.prog 5 #[.slice A n cap, .slice B k d] W fun e w' => e = .returned (.bool true) ∧ Below W.heap.size W w' :=
  reads_calls l m A B n cap k d W hl ho hm hq
end Go.Proofs.Ytidfogcilegloaa
