import Derived.Test.YtlbcckdbpgofmaaW13
import Derived.Test.YtlbcckdbpgofmaaVerW
/-! CertifyWeaker's walk, as the row asks for it. -/
namespace Go.Proofs.Ytlbcckdbpgofmaa
open Go.RowKit
theorem weaker_row (W : World) (r : Rec) (cs : Array Value) (hr : tRec.K W (fun _ => True) r cs.toList) (hro : RecOk r) (o : Rec) (cs2 : Array Value) (ho : tRec.K W (fun _ => True) o cs2.toList) (hoo : RecOk o) (u : Int) (hu : (Lit.int .u64 u).wf = true) :
    Calls Try.prog 5 #[.agg cs, .agg cs2, .int .u64 u] W fun e w' => e = .returned (.bool true) ∧ Below W.heap.size W w' := by
  obtain ⟨R, nr, cr, U, nw, cw, rfl, h1, h2⟩ := rec_arg hr
  obtain ⟨R2, nr2, cr2, U2, nw2, cw2, rfl, h3, h4⟩ := rec_arg ho
  have hu' : 0 ≤ u ∧ u < 18446744073709551616 := by
    simp [Lit.wf, IntKind.min, IntKind.max, IntKind.signed, IntKind.bits] at hu; omega
  exact weaker_calls _ _ _ R nr cr U nw cw _ _ _ R2 nr2 cr2 U2 nw2 cw2 r.reads o.reads r.writes o.writes u W h1 h2 h3 h4 hro hoo hu'.1
end Go.Proofs.Ytlbcckdbpgofmaa
