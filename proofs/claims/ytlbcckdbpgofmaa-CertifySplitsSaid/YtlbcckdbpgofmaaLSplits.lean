import Derived.Test.YtlbcckdbpgofmaaW12
import Derived.Test.YtlbcckdbpgofmaaVerW
/-! CertifySplits' walk, as the row asks for it. -/
namespace Go.Proofs.Ytlbcckdbpgofmaa
open Go.RowKit
theorem splits_row (W : World) (r : Rec) (cs : Array Value) (hr : tRec.K W (fun _ => True) r cs.toList) (hro : RecOk r) (l : List Rec) (A : Option Addr) (n cap : Nat) (hl : Sl tRec W (fun _ => True) (.slice A n cap) l) (ho : (∀ x ∈ l, RecOk x) ∧ l.length ≤ 1954687338211) (u : Int) (hu : (Lit.int .u64 u).wf = true) :
    Calls Try.prog 4 #[.agg cs, .slice A n cap, .int .u64 u] W fun e w' => e = .returned (.bool true) ∧ Below W.heap.size W w' := by
  obtain ⟨R, nr, cr, U, nw, cw, rfl, h1, h2⟩ := rec_arg hr
  have hu' : 0 ≤ u ∧ u < 18446744073709551616 := by
    simp [Lit.wf, IntKind.min, IntKind.max, IntKind.signed, IntKind.bits] at hu; omega
  exact splits_calls r R nr cr U nw cw l A n cap u W h1 h2 hl hro ho.1 (by have := hl.length.1; omega) hu'.1 hu'.2
end Go.Proofs.Ytlbcckdbpgofmaa
