import Derived.Test.YtlbcckdbpgofmaaW19
import Derived.Test.YtlbcckdbpgofmaaVerX
/-! CertifyAsks' walk, as the row asks for it. -/
namespace Go.Proofs.Ytlbcckdbpgofmaa
open Go.RowKit
theorem asks_row (W : World) (r : Rec) (cs : Array Value) (hr : tRec.K W (fun _ => True) r cs.toList) (hro : RecBig r) (x : Rd) (cs2 : Array Value) (hx : tRead.K W (fun _ => True) x cs2.toList) (hxo : x.key.size ≤ 140737488351232 ∧ x.to.size ≤ 140737488351232 ∧ Short x.pairs ∧ x.pairs.length ≤ 140737488351232) :
    Calls Try.prog 7 #[.agg cs, .agg cs2] W fun e w' => e = .returned (.bool true) ∧ Below W.heap.size W w' := by
  obtain ⟨R, nr, cr, U, nw, cw, rfl, h1, h2⟩ := rec_arg hr
  obtain ⟨P, np, cp, e, h3⟩ := read_form hx
  obtain rfl : cs2 = #[.bool x.scan, .string x.key, .string x.to, .slice P np cp] := by rw [← Array.toArray_toList (xs := cs2), e]
  exact asks_calls _ _ _ R nr cr U nw cw r.reads r.writes x.scan x.key x.to P np cp W h1 h2 hro.1 (by have := h1.length.1; have := hro.2; omega) hxo.1 hxo.2.1
end Go.Proofs.Ytlbcckdbpgofmaa
