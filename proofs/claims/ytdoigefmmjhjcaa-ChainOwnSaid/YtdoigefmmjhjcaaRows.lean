/-
  No cell of these rows narrows 'for every input' (looked for: loops, veiled, ifaces, maps, wideKeys, modest, calm, conditions, laid).
  DERIVED. THE GIVEN ROWS OF THIS SEAT. 6 by the template 'for every input the law returns true; each argument reads behind the call as it read before'; 0 by the template 'total and deterministic' (their statements: YtdoigefmmjhjcaaTotals.lean).
  GIVEN WITH THE SEED: the statements are not yours to turn. If you find one false, say at which input.
  Laid BY PROGRAM, IN A SANDBOX (cutbox-rows.mjs): the forced cells as the released guide's own fill.sh prints them over the translation 3dcb9fd25f8376e0… (all of the seat's roots in one cut). By AI agents, Wed Nov 11 2026. No macro, syntax, notation, axiom, sorry.
-/
import Derived.Test.YtdoigefmmjhjcaaChecked
import GoSem.Claim
import GoSem.ClaimJoined
import GoSem.ClaimMapViews
import Derived.JoinedTies
import Derived.KernelRfl
namespace Go.Proofs.Ytdoigefmmjhjcaa
/- THE CELL 'sum', in the pinned program and in every row, IS THE sha256 OF THE DUMP (.gsa) THAT YtdoigefmmjhjcaaProg.lean LOADS. Nothing in Lean hashes anything: it is a label: what it is worth is what the hold of that sum in a sandbox is worth. -/
noncomputable def Try.pinned : Pinned := { name := "ytdoigefmmjhjcaa", sum := "3dcb9fd25f8376e05faef01320e92b326393ccb2e4bb090238909726e51d76a9", checked := Try.checked }
namespace Rows
def none {H : Type} : Left H := { results := [], args := [] }

/-- 'indenturelaw07.ChainTrims': WHATEVER THE INPUT: true; the input reads as it did. -/
def chainTrimsSpec : ChangeSpec := { name := "chainTrims", fn := fun _ => fun
  | [d1, d2, d3] => { results := [.lit (.bool true)], args := [d1, d2, d3] }
  | _ => none }
def chainTrimsRow : OpenClaim := { program := "ytdoigefmmjhjcaa", sum := "3dcb9fd25f8376e05faef01320e92b326393ccb2e4bb090238909726e51d76a9", func := "indenture/indenturelaw07.ChainTrims", spec := "chainTrims", unfollowed := true, recurses := true, apart := false }
def ChainTrimsSaid : Prop := chainTrimsRow.holds Try.pinned (OpenSpec.ofChange chainTrimsSpec)

/-- ITS FALSE NEIGHBOUR: 'it returns false'. Refute it at one input. -/
def chainTrimsWrong : ChangeSpec := { name := "chainTrims", fn := fun _ => fun
  | [d1, d2, d3] => { results := [.lit (.bool false)], args := [d1, d2, d3] }
  | _ => none }
def ChainTrimsWrongFalsely : Prop := chainTrimsRow.holds Try.pinned (OpenSpec.ofChange chainTrimsWrong)

/-- 'indenturelaw07.ChainAsks': WHATEVER THE INPUT: true; the input reads as it did. -/
def chainAsksSpec : ChangeSpec := { name := "chainAsks", fn := fun _ => fun
  | [d1, d2] => { results := [.lit (.bool true)], args := [d1, d2] }
  | _ => none }
def chainAsksRow : OpenClaim := { program := "ytdoigefmmjhjcaa", sum := "3dcb9fd25f8376e05faef01320e92b326393ccb2e4bb090238909726e51d76a9", func := "indenture/indenturelaw07.ChainAsks", spec := "chainAsks", unfollowed := true, recurses := true, apart := false }
def ChainAsksSaid : Prop := chainAsksRow.holds Try.pinned (OpenSpec.ofChange chainAsksSpec)

/-- ITS FALSE NEIGHBOUR: 'it returns false'. Refute it at one input. -/
def chainAsksWrong : ChangeSpec := { name := "chainAsks", fn := fun _ => fun
  | [d1, d2] => { results := [.lit (.bool false)], args := [d1, d2] }
  | _ => none }
def ChainAsksWrongFalsely : Prop := chainAsksRow.holds Try.pinned (OpenSpec.ofChange chainAsksWrong)

/-- 'indenturelaw07.ChainCuts': WHATEVER THE INPUT: true; the input reads as it did. -/
def chainCutsSpec : ChangeSpec := { name := "chainCuts", fn := fun _ => fun
  | [d1, d2, d3] => { results := [.lit (.bool true)], args := [d1, d2, d3] }
  | _ => none }
def chainCutsRow : OpenClaim := { program := "ytdoigefmmjhjcaa", sum := "3dcb9fd25f8376e05faef01320e92b326393ccb2e4bb090238909726e51d76a9", func := "indenture/indenturelaw07.ChainCuts", spec := "chainCuts", unfollowed := true, recurses := true, apart := false }
def ChainCutsSaid : Prop := chainCutsRow.holds Try.pinned (OpenSpec.ofChange chainCutsSpec)

/-- ITS FALSE NEIGHBOUR: 'it returns false'. Refute it at one input. -/
def chainCutsWrong : ChangeSpec := { name := "chainCuts", fn := fun _ => fun
  | [d1, d2, d3] => { results := [.lit (.bool false)], args := [d1, d2, d3] }
  | _ => none }
def ChainCutsWrongFalsely : Prop := chainCutsRow.holds Try.pinned (OpenSpec.ofChange chainCutsWrong)

/-- 'indenturelaw07.ChainMakes': WHATEVER THE INPUT: true; the input reads as it did. -/
def chainMakesSpec : ChangeSpec := { name := "chainMakes", fn := fun _ => fun
  | [d1, d2, d3] => { results := [.lit (.bool true)], args := [d1, d2, d3] }
  | _ => none }
def chainMakesRow : OpenClaim := { program := "ytdoigefmmjhjcaa", sum := "3dcb9fd25f8376e05faef01320e92b326393ccb2e4bb090238909726e51d76a9", func := "indenture/indenturelaw07.ChainMakes", spec := "chainMakes", unfollowed := true, recurses := true, apart := false }
def ChainMakesSaid : Prop := chainMakesRow.holds Try.pinned (OpenSpec.ofChange chainMakesSpec)

/-- ITS FALSE NEIGHBOUR: 'it returns false'. Refute it at one input. -/
def chainMakesWrong : ChangeSpec := { name := "chainMakes", fn := fun _ => fun
  | [d1, d2, d3] => { results := [.lit (.bool false)], args := [d1, d2, d3] }
  | _ => none }
def ChainMakesWrongFalsely : Prop := chainMakesRow.holds Try.pinned (OpenSpec.ofChange chainMakesWrong)

/-- 'indenturelaw07.ChainPuts': WHATEVER THE INPUT: true; the input reads as it did. -/
def chainPutsSpec : ChangeSpec := { name := "chainPuts", fn := fun _ => fun
  | [d1, d2, d3] => { results := [.lit (.bool true)], args := [d1, d2, d3] }
  | _ => none }
def chainPutsRow : OpenClaim := { program := "ytdoigefmmjhjcaa", sum := "3dcb9fd25f8376e05faef01320e92b326393ccb2e4bb090238909726e51d76a9", func := "indenture/indenturelaw07.ChainPuts", spec := "chainPuts", unfollowed := true, recurses := true, apart := false }
def ChainPutsSaid : Prop := chainPutsRow.holds Try.pinned (OpenSpec.ofChange chainPutsSpec)

/-- ITS FALSE NEIGHBOUR: 'it returns false'. Refute it at one input. -/
def chainPutsWrong : ChangeSpec := { name := "chainPuts", fn := fun _ => fun
  | [d1, d2, d3] => { results := [.lit (.bool false)], args := [d1, d2, d3] }
  | _ => none }
def ChainPutsWrongFalsely : Prop := chainPutsRow.holds Try.pinned (OpenSpec.ofChange chainPutsWrong)

/-- 'indenturelaw07.ChainOwn': WHATEVER THE INPUT: true; the input reads as it did. -/
def chainOwnSpec : ChangeSpec := { name := "chainOwn", fn := fun _ => fun
  | [d1, d2, d3] => { results := [.lit (.bool true)], args := [d1, d2, d3] }
  | _ => none }
def chainOwnRow : OpenClaim := { program := "ytdoigefmmjhjcaa", sum := "3dcb9fd25f8376e05faef01320e92b326393ccb2e4bb090238909726e51d76a9", func := "indenture/indenturelaw07.ChainOwn", spec := "chainOwn", unfollowed := true, recurses := true, apart := false }
def ChainOwnSaid : Prop := chainOwnRow.holds Try.pinned (OpenSpec.ofChange chainOwnSpec)

/-- ITS FALSE NEIGHBOUR: 'it returns false'. Refute it at one input. -/
def chainOwnWrong : ChangeSpec := { name := "chainOwn", fn := fun _ => fun
  | [d1, d2, d3] => { results := [.lit (.bool false)], args := [d1, d2, d3] }
  | _ => none }
def ChainOwnWrongFalsely : Prop := chainOwnRow.holds Try.pinned (OpenSpec.ofChange chainOwnWrong)

/- THE SECOND FORM. 'bulk': how many values and letters a reading holds, each counted each time it is reached (what is shared counts as often as it is met; a slice's spare places count too). A statement '..UptoSaid' is the law's where the arguments, and the package variables that the reading takes, are together of bulk at most 1048576: NARROWER than '..Said'. Prove '..Said' where nothing that the law and all that it calls make is longer than what came in: it says more and counts as full. Else prove '..UptoSaid'. A law counts once. -/
mutual
def uptoBulk {H : Type} : DataW H → Nat
  | .lit (.string bytes) => bytes.length + 1
  | .lit _ => 1
  | .nil => 1
  | .ptr d => uptoBulk d + 1
  | .slice elems spare => uptoBulkAll elems + uptoBulkAll spare + 1
  | .agg parts => uptoBulkAll parts + 1
  | .iface _ d => uptoBulk d + 1
  | .map entries => uptoBulkEntries entries + 1
  | .held _ => 1
def uptoBulkAll {H : Type} : List (DataW H) → Nat
  | [] => 0
  | d :: r => uptoBulk d + uptoBulkAll r
def uptoBulkEntries {H : Type} : List (Lit × DataW H) → Nat
  | [] => 0
  | x :: r => uptoBulkEntry x + uptoBulkEntries r
def uptoBulkEntry {H : Type} : Lit × DataW H → Nat
  | (.string bytes, d) => bytes.length + uptoBulk d + 1
  | (_, d) => uptoBulk d + 1
 end
def uptoSmall : (H : Type) → List (DataW H) → Bool := fun _ ds => decide (uptoBulkAll ds ≤ 1048576)
def OpenSpec.upto (s : _root_.Go.ChangeSpec) : _root_.Go.OpenSpec := { _root_.Go.OpenSpec.ofChange s with cond := some uptoSmall }

/-- 'indenturelaw07.ChainTrims', WHERE WHAT IT READS IS OF BULK AT MOST 1048576: true; the input reads as it did. -/
def chainTrimsUptoRow : OpenClaim := { program := "ytdoigefmmjhjcaa", sum := "3dcb9fd25f8376e05faef01320e92b326393ccb2e4bb090238909726e51d76a9", func := "indenture/indenturelaw07.ChainTrims", spec := "chainTrims", unfollowed := true, recurses := true, apart := false, narrowed := true }
def ChainTrimsUptoSaid : Prop := chainTrimsUptoRow.holds Try.pinned (OpenSpec.upto chainTrimsSpec)

/-- 'indenturelaw07.ChainAsks', WHERE WHAT IT READS IS OF BULK AT MOST 1048576: true; the input reads as it did. -/
def chainAsksUptoRow : OpenClaim := { program := "ytdoigefmmjhjcaa", sum := "3dcb9fd25f8376e05faef01320e92b326393ccb2e4bb090238909726e51d76a9", func := "indenture/indenturelaw07.ChainAsks", spec := "chainAsks", unfollowed := true, recurses := true, apart := false, narrowed := true }
def ChainAsksUptoSaid : Prop := chainAsksUptoRow.holds Try.pinned (OpenSpec.upto chainAsksSpec)

/-- 'indenturelaw07.ChainCuts', WHERE WHAT IT READS IS OF BULK AT MOST 1048576: true; the input reads as it did. -/
def chainCutsUptoRow : OpenClaim := { program := "ytdoigefmmjhjcaa", sum := "3dcb9fd25f8376e05faef01320e92b326393ccb2e4bb090238909726e51d76a9", func := "indenture/indenturelaw07.ChainCuts", spec := "chainCuts", unfollowed := true, recurses := true, apart := false, narrowed := true }
def ChainCutsUptoSaid : Prop := chainCutsUptoRow.holds Try.pinned (OpenSpec.upto chainCutsSpec)

/-- 'indenturelaw07.ChainMakes', WHERE WHAT IT READS IS OF BULK AT MOST 1048576: true; the input reads as it did. -/
def chainMakesUptoRow : OpenClaim := { program := "ytdoigefmmjhjcaa", sum := "3dcb9fd25f8376e05faef01320e92b326393ccb2e4bb090238909726e51d76a9", func := "indenture/indenturelaw07.ChainMakes", spec := "chainMakes", unfollowed := true, recurses := true, apart := false, narrowed := true }
def ChainMakesUptoSaid : Prop := chainMakesUptoRow.holds Try.pinned (OpenSpec.upto chainMakesSpec)

/-- 'indenturelaw07.ChainPuts', WHERE WHAT IT READS IS OF BULK AT MOST 1048576: true; the input reads as it did. -/
def chainPutsUptoRow : OpenClaim := { program := "ytdoigefmmjhjcaa", sum := "3dcb9fd25f8376e05faef01320e92b326393ccb2e4bb090238909726e51d76a9", func := "indenture/indenturelaw07.ChainPuts", spec := "chainPuts", unfollowed := true, recurses := true, apart := false, narrowed := true }
def ChainPutsUptoSaid : Prop := chainPutsUptoRow.holds Try.pinned (OpenSpec.upto chainPutsSpec)

/-- 'indenturelaw07.ChainOwn', WHERE WHAT IT READS IS OF BULK AT MOST 1048576: true; the input reads as it did. -/
def chainOwnUptoRow : OpenClaim := { program := "ytdoigefmmjhjcaa", sum := "3dcb9fd25f8376e05faef01320e92b326393ccb2e4bb090238909726e51d76a9", func := "indenture/indenturelaw07.ChainOwn", spec := "chainOwn", unfollowed := true, recurses := true, apart := false, narrowed := true }
def ChainOwnUptoSaid : Prop := chainOwnUptoRow.holds Try.pinned (OpenSpec.upto chainOwnSpec)

end Rows
end Go.Proofs.Ytdoigefmmjhjcaa
