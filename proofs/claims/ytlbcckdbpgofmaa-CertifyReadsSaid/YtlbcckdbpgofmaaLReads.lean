import Derived.Test.YtlbcckdbpgofmaaW14
import Derived.Test.YtlbcckdbpgofmaaVerW
/-! CertifyReads' walk, as the row asks for it. -/
namespace Go.Proofs.Ytlbcckdbpgofmaa
open Go.RowKit
theorem reads_row (W : World) (r : Rec) (cs : Array Value) (hr : tRec.K W (fun _ => True) r cs.toList) (hro : RecOk r) (f : ByteArray) (hf : f.size ≤ reachBytes) (t : ByteArray) (ht : t.size ≤ reachBytes) :
    Calls Try.prog 6 #[.agg cs, .string f, .string t] W fun e w' => e = .returned (.bool true) ∧ Below W.heap.size W w' := by
  obtain ⟨R, nr, cr, U, nw, cw, rfl, h1, h2⟩ := rec_arg hr
  exact reads_calls _ _ _ R nr cr U nw cw r.reads r.writes f t W h1 h2 hro hf ht
end Go.Proofs.Ytlbcckdbpgofmaa
