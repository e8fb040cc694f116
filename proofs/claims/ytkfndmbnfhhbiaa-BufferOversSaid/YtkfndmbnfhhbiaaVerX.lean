import Derived.Test.YtkfndmbnfhhbiaaVerW
/-! The row's reading of a range. -/
namespace Go.Proofs.Ytkfndmbnfhhbiaa
def tRange : Ty (ByteArray × ByteArray × Int) := Ty.str.pair (Ty.str.pair (Ty.int .i64))
theorem opens_range : Opens Try.prog 25 tRange (fun v => v.1.size ≤ 140737488351232 ∧ v.2.1.size ≤ 140737488351232) :=
  Opens.weak (opens_struct Try.underlying25 (by kernel_rfl)
    (opensFs_cons rfl (by kernel_rfl) rfl (opens_str Try.underlying9) (opensFs_cons rfl (by kernel_rfl) rfl (opens_str Try.underlying9) (opensFs_one rfl (by kernel_rfl) (opens_int Try.underlying3))))) fun _ h => ⟨h.1, h.2.1⟩
theorem range_arg {w : World} {ok : Nat → Prop} {x : ByteArray × ByteArray × Int} {cs : Array Value} (h : tRange.K w ok x cs.toList) : cs = #[.string x.1, .string x.2.1, .int .i64 x.2.2] := by
  obtain ⟨_, _, e, h1, _, _, rfl, h2, h3⟩ := h
  rw [← Array.toArray_toList (xs := cs), e, show _ = _ from h1, show _ = _ from h2, show _ = _ from h3]
  rfl
end Go.Proofs.Ytkfndmbnfhhbiaa
