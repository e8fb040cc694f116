import Derived.Test.YtidjcdfdfbomiaaW20
import Derived.Test.YtidjcdfdfbomiaaVerW
/-! ScheduleCounts' walk, as the row asks for it. -/
namespace Go.Proofs.Ytidjcdfdfbomiaa
open Go.RowKit
theorem counts_row (W : World) (l : List Plan) (A : Option Addr) (n cap : Nat) (hl : Sl tPlan W (fun _ => True) (.slice A n cap) l) (ho : ∀ p ∈ l, PlanOk p) (m : Int) (_ : (Lit.int .i64 m).wf = true) (s : Int) (hs : (Lit.int .u64 s).wf = true) :
    Calls Try.prog 3 #[.slice A n cap, .int .i64 m, .int .u64 s] W fun e w' => e = .returned (.bool true) ∧ Below W.heap.size W w' :=
  counts_calls l A n cap m s W hl ho (by simp [Lit.wf, IntKind.min, IntKind.max, IntKind.signed, IntKind.bits] at hs; omega)
end Go.Proofs.Ytidjcdfdfbomiaa
