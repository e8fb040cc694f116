import Derived.Test.YtlbcckdbpgofmaaW21
import Derived.Test.YtlbcckdbpgofmaaVerX
/-! CertifyOwn's walk, as the row asks for it. -/
namespace Go.Proofs.Ytlbcckdbpgofmaa
open Go.RowKit
theorem own_row (W : World) (r : Rec) (cs : Array Value) (hr : tRec.K W (fun _ => True) r cs.toList) (hro : RecBig r) (l : List Rec) (A : Option Addr) (n cap : Nat) (hl : Sl tRec W (fun _ => True) (.slice A n cap) l) (ho : (∀ x ∈ l, RecOk x) ∧ l.length ≤ 1954687338211) :
    Calls Try.prog 8 #[.agg cs, .slice A n cap] W fun e w' => e = .returned (.bool true) ∧ Below W.heap.size W w' := by
  obtain ⟨R, nr, cr, U, nw, cw, rfl, h1, h2⟩ := rec_arg hr
  exact ownlaw_calls _ _ _ R nr cr U nw cw r.reads r.writes l A n cap W h1 h2 hl hro.1 (by have := h1.length.1; have := hro.2; omega) ho.1 (by have := hl.length.1; omega)
end Go.Proofs.Ytlbcckdbpgofmaa
