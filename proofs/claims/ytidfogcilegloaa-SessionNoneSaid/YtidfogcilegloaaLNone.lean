import Derived.Test.YtidfogcilegloaaS15
import Derived.Test.YtidfogcilegloaaVerW
/-! SessionNone's walk, as the row asks for it. -/
namespace Go.Proofs.Ytidfogcilegloaa
open Go.RowKit
theorem none_row (W : World) (a : LAct) (cs : Array Value) (h : tLAct.K W (fun _ => True) a cs.toList) (ha : LActOk a) :
    Calls Try.prog 4 #[.agg cs] W fun e w' => e = .returned (.bool true) ∧ Below W.heap.size W w' := by
  obtain ⟨P, np, cp, e, hp⟩ := lact_form h
  obtain rfl : cs = #[.int .i64 a.kind, .int .i64 a.n, .string a.key, .string a.val, .bool a.strict, .slice P np cp] := by
    rw [← e]
  exact none_calls a P np cp W hp ha
end Go.Proofs.Ytidfogcilegloaa
