import Derived.Test.YtidjcdfdfbomiaaW10
import Derived.Test.YtidjcdfdfbomiaaVerW
/-! ScheduleBack's walk, as the row asks for it. -/
namespace Go.Proofs.Ytidjcdfdfbomiaa
open Go.RowKit
theorem back_row (W : World) (l : List Plan) (A : Option Addr) (n cap : Nat) (hl : Sl tPlan W (fun _ => True) (.slice A n cap) l) (ho : ∀ p ∈ l, PlanOk p) (pk : List Int) (A2 : Option Addr) (n2 cap2 : Nat) (hp : Sl tI W (fun _ => True) (.slice A2 n2 cap2) pk) (_ : True) :
    Calls Try.prog 4 #[.slice A n cap, .slice A2 n2 cap2] W fun e w' => e = .returned (.bool true) ∧ Below W.heap.size W w' :=
  back_calls l A n cap pk A2 n2 cap2 W hl ho hp
end Go.Proofs.Ytidjcdfdfbomiaa
