/-
  No cell of these rows narrows 'for every input' (looked for: loops, veiled, ifaces, maps, wideKeys, modest, calm, conditions, laid).
  DERIVED. THE GIVEN ROWS OF THIS SEAT. 6 by the template 'for every input the law returns true; each argument reads behind the call as it read before'; 0 by the template 'total and deterministic' (their statements: YtkfndmbnfhhbiaaTotals.lean).
  GIVEN WITH THE SEED: the statements are not yours to turn. If you find one false, say at which input.
  Laid BY PROGRAM, IN A SANDBOX (cutbox-rows.mjs): the forced cells as the released guide's own fill.sh prints them over the translation ac1dd1e930ff0478… (all of the seat's roots in one cut). By AI agents, Wed Nov 11 2026. No macro, syntax, notation, axiom, sorry.
-/
import Derived.Test.YtkfndmbnfhhbiaaChecked
import GoSem.Claim
import GoSem.ClaimJoined
import GoSem.ClaimMapViews
import Derived.JoinedTies
import Derived.KernelRfl
namespace Go.Proofs.Ytkfndmbnfhhbiaa
/- THE CELL 'sum', in the pinned program and in every row, IS THE sha256 OF THE DUMP (.gsa) THAT YtkfndmbnfhhbiaaProg.lean LOADS. Nothing in Lean hashes anything: it is a label: what it is worth is what the hold of that sum in a sandbox is worth. -/
noncomputable def Try.pinned : Pinned := { name := "ytkfndmbnfhhbiaa", sum := "ac1dd1e930ff04781709a99e352d168eb062790d99b7288c3695bf10df9f61fe", checked := Try.checked }
namespace Rows
def none {H : Type} : Left H := { results := [], args := [] }

/-- 'indenturelaw13.BufferOvers': WHATEVER THE INPUT: true; the input reads as it did. -/
def bufferOversSpec : ChangeSpec := { name := "bufferOvers", fn := fun _ => fun
  | [d1, d2, d3] => { results := [.lit (.bool true)], args := [d1, d2, d3] }
  | _ => none }
def bufferOversRow : OpenClaim := { program := "ytkfndmbnfhhbiaa", sum := "ac1dd1e930ff04781709a99e352d168eb062790d99b7288c3695bf10df9f61fe", func := "indenture/indenturelaw13.BufferOvers", spec := "bufferOvers", unfollowed := true, recurses := true, apart := false }
def BufferOversSaid : Prop := bufferOversRow.holds Try.pinned (OpenSpec.ofChange bufferOversSpec)

/-- ITS FALSE NEIGHBOUR: 'it returns false'. Refute it at one input. -/
def bufferOversWrong : ChangeSpec := { name := "bufferOvers", fn := fun _ => fun
  | [d1, d2, d3] => { results := [.lit (.bool false)], args := [d1, d2, d3] }
  | _ => none }
def BufferOversWrongFalsely : Prop := bufferOversRow.holds Try.pinned (OpenSpec.ofChange bufferOversWrong)

/-- 'indenturelaw13.BufferMost': WHATEVER THE INPUT: true; the input reads as it did. -/
def bufferMostSpec : ChangeSpec := { name := "bufferMost", fn := fun _ => fun
  | [d1, d2] => { results := [.lit (.bool true)], args := [d1, d2] }
  | _ => none }
def bufferMostRow : OpenClaim := { program := "ytkfndmbnfhhbiaa", sum := "ac1dd1e930ff04781709a99e352d168eb062790d99b7288c3695bf10df9f61fe", func := "indenture/indenturelaw13.BufferMost", spec := "bufferMost", unfollowed := true, recurses := true, apart := false }
def BufferMostSaid : Prop := bufferMostRow.holds Try.pinned (OpenSpec.ofChange bufferMostSpec)

/-- ITS FALSE NEIGHBOUR: 'it returns false'. Refute it at one input. -/
def bufferMostWrong : ChangeSpec := { name := "bufferMost", fn := fun _ => fun
  | [d1, d2] => { results := [.lit (.bool false)], args := [d1, d2] }
  | _ => none }
def BufferMostWrongFalsely : Prop := bufferMostRow.holds Try.pinned (OpenSpec.ofChange bufferMostWrong)

/-- 'indenturelaw13.BufferLays': WHATEVER THE INPUT: true; the input reads as it did. -/
def bufferLaysSpec : ChangeSpec := { name := "bufferLays", fn := fun _ => fun
  | [d1, d2] => { results := [.lit (.bool true)], args := [d1, d2] }
  | _ => none }
def bufferLaysRow : OpenClaim := { program := "ytkfndmbnfhhbiaa", sum := "ac1dd1e930ff04781709a99e352d168eb062790d99b7288c3695bf10df9f61fe", func := "indenture/indenturelaw13.BufferLays", spec := "bufferLays", unfollowed := true, recurses := true, apart := false }
def BufferLaysSaid : Prop := bufferLaysRow.holds Try.pinned (OpenSpec.ofChange bufferLaysSpec)

/-- ITS FALSE NEIGHBOUR: 'it returns false'. Refute it at one input. -/
def bufferLaysWrong : ChangeSpec := { name := "bufferLays", fn := fun _ => fun
  | [d1, d2] => { results := [.lit (.bool false)], args := [d1, d2] }
  | _ => none }
def BufferLaysWrongFalsely : Prop := bufferLaysRow.holds Try.pinned (OpenSpec.ofChange bufferLaysWrong)

/-- 'indenturelaw13.BufferActs': WHATEVER THE INPUT: true; the input reads as it did. -/
def bufferActsSpec : ChangeSpec := { name := "bufferActs", fn := fun _ => fun
  | [d] => { results := [.lit (.bool true)], args := [d] }
  | _ => none }
def bufferActsRow : OpenClaim := { program := "ytkfndmbnfhhbiaa", sum := "ac1dd1e930ff04781709a99e352d168eb062790d99b7288c3695bf10df9f61fe", func := "indenture/indenturelaw13.BufferActs", spec := "bufferActs", unfollowed := true, recurses := true, apart := false }
def BufferActsSaid : Prop := bufferActsRow.holds Try.pinned (OpenSpec.ofChange bufferActsSpec)

/-- ITS FALSE NEIGHBOUR: 'it returns false'. Refute it at one input. -/
def bufferActsWrong : ChangeSpec := { name := "bufferActs", fn := fun _ => fun
  | [d] => { results := [.lit (.bool false)], args := [d] }
  | _ => none }
def BufferActsWrongFalsely : Prop := bufferActsRow.holds Try.pinned (OpenSpec.ofChange bufferActsWrong)

/-- 'indenturelaw13.BufferLast': WHATEVER THE INPUT: true; the input reads as it did. -/
def bufferLastSpec : ChangeSpec := { name := "bufferLast", fn := fun _ => fun
  | [d1, d2] => { results := [.lit (.bool true)], args := [d1, d2] }
  | _ => none }
def bufferLastRow : OpenClaim := { program := "ytkfndmbnfhhbiaa", sum := "ac1dd1e930ff04781709a99e352d168eb062790d99b7288c3695bf10df9f61fe", func := "indenture/indenturelaw13.BufferLast", spec := "bufferLast", unfollowed := true, recurses := true, apart := false }
def BufferLastSaid : Prop := bufferLastRow.holds Try.pinned (OpenSpec.ofChange bufferLastSpec)

/-- ITS FALSE NEIGHBOUR: 'it returns false'. Refute it at one input. -/
def bufferLastWrong : ChangeSpec := { name := "bufferLast", fn := fun _ => fun
  | [d1, d2] => { results := [.lit (.bool false)], args := [d1, d2] }
  | _ => none }
def BufferLastWrongFalsely : Prop := bufferLastRow.holds Try.pinned (OpenSpec.ofChange bufferLastWrong)

/-- 'indenturelaw13.BufferNone': WHATEVER THE INPUT: true; the input reads as it did. -/
def bufferNoneSpec : ChangeSpec := { name := "bufferNone", fn := fun _ => fun
  | [d1, d2] => { results := [.lit (.bool true)], args := [d1, d2] }
  | _ => none }
def bufferNoneRow : OpenClaim := { program := "ytkfndmbnfhhbiaa", sum := "ac1dd1e930ff04781709a99e352d168eb062790d99b7288c3695bf10df9f61fe", func := "indenture/indenturelaw13.BufferNone", spec := "bufferNone", unfollowed := true, recurses := true, apart := false }
def BufferNoneSaid : Prop := bufferNoneRow.holds Try.pinned (OpenSpec.ofChange bufferNoneSpec)

/-- ITS FALSE NEIGHBOUR: 'it returns false'. Refute it at one input. -/
def bufferNoneWrong : ChangeSpec := { name := "bufferNone", fn := fun _ => fun
  | [d1, d2] => { results := [.lit (.bool false)], args := [d1, d2] }
  | _ => none }
def BufferNoneWrongFalsely : Prop := bufferNoneRow.holds Try.pinned (OpenSpec.ofChange bufferNoneWrong)

/- THE SECOND FORM. 'bulk': how many values and letters a reading holds, each counted each time it is reached (what is shared counts as often as it is met; a slice's spare places count too). A statement '..UptoSaid' is the law's where the arguments, and the package variables that the reading takes, are together of bulk at most 1048576: NARROWER than '..Said'. Prove '..Said' where nothing that the law and all that it calls make is longer than what came in: it says more and counts as full. Else prove '..UptoSaid'. A law counts once. -/
mutual
def uptoBulk {H : Type} : DataW H → Nat
  | .lit (.string bytes) => bytes.length + 1
  | .lit _ => 1
  | .nil => 1
  | .ptr d => uptoBulk d + 1
  | .slice elems spare => uptoBulkAll elems + uptoBulkAll spare + 1
  | .agg parts => uptoBulkAll parts + 1
  | .iface _ d => uptoBulk d + 1
  | .map entries => uptoBulkEntries entries + 1
  | .held _ => 1
def uptoBulkAll {H : Type} : List (DataW H) → Nat
  | [] => 0
  | d :: r => uptoBulk d + uptoBulkAll r
def uptoBulkEntries {H : Type} : List (Lit × DataW H) → Nat
  | [] => 0
  | x :: r => uptoBulkEntry x + uptoBulkEntries r
def uptoBulkEntry {H : Type} : Lit × DataW H → Nat
  | (.string bytes, d) => bytes.length + uptoBulk d + 1
  | (_, d) => uptoBulk d + 1
 end
def uptoSmall : (H : Type) → List (DataW H) → Bool := fun _ ds => decide (uptoBulkAll ds ≤ 1048576)
def OpenSpec.upto (s : _root_.Go.ChangeSpec) : _root_.Go.OpenSpec := { _root_.Go.OpenSpec.ofChange s with cond := some uptoSmall }

/-- 'indenturelaw13.BufferOvers', WHERE WHAT IT READS IS OF BULK AT MOST 1048576: true; the input reads as it did. -/
def bufferOversUptoRow : OpenClaim := { program := "ytkfndmbnfhhbiaa", sum := "ac1dd1e930ff04781709a99e352d168eb062790d99b7288c3695bf10df9f61fe", func := "indenture/indenturelaw13.BufferOvers", spec := "bufferOvers", unfollowed := true, recurses := true, apart := false, narrowed := true }
def BufferOversUptoSaid : Prop := bufferOversUptoRow.holds Try.pinned (OpenSpec.upto bufferOversSpec)

/-- 'indenturelaw13.BufferMost', WHERE WHAT IT READS IS OF BULK AT MOST 1048576: true; the input reads as it did. -/
def bufferMostUptoRow : OpenClaim := { program := "ytkfndmbnfhhbiaa", sum := "ac1dd1e930ff04781709a99e352d168eb062790d99b7288c3695bf10df9f61fe", func := "indenture/indenturelaw13.BufferMost", spec := "bufferMost", unfollowed := true, recurses := true, apart := false, narrowed := true }
def BufferMostUptoSaid : Prop := bufferMostUptoRow.holds Try.pinned (OpenSpec.upto bufferMostSpec)

/-- 'indenturelaw13.BufferLays', WHERE WHAT IT READS IS OF BULK AT MOST 1048576: true; the input reads as it did. -/
def bufferLaysUptoRow : OpenClaim := { program := "ytkfndmbnfhhbiaa", sum := "ac1dd1e930ff04781709a99e352d168eb062790d99b7288c3695bf10df9f61fe", func := "indenture/indenturelaw13.BufferLays", spec := "bufferLays", unfollowed := true, recurses := true, apart := false, narrowed := true }
def BufferLaysUptoSaid : Prop := bufferLaysUptoRow.holds Try.pinned (OpenSpec.upto bufferLaysSpec)

/-- 'indenturelaw13.BufferActs', WHERE WHAT IT READS IS OF BULK AT MOST 1048576: true; the input reads as it did. -/
def bufferActsUptoRow : OpenClaim := { program := "ytkfndmbnfhhbiaa", sum := "ac1dd1e930ff04781709a99e352d168eb062790d99b7288c3695bf10df9f61fe", func := "indenture/indenturelaw13.BufferActs", spec := "bufferActs", unfollowed := true, recurses := true, apart := false, narrowed := true }
def BufferActsUptoSaid : Prop := bufferActsUptoRow.holds Try.pinned (OpenSpec.upto bufferActsSpec)

/-- 'indenturelaw13.BufferLast', WHERE WHAT IT READS IS OF BULK AT MOST 1048576: true; the input reads as it did. -/
def bufferLastUptoRow : OpenClaim := { program := "ytkfndmbnfhhbiaa", sum := "ac1dd1e930ff04781709a99e352d168eb062790d99b7288c3695bf10df9f61fe", func := "indenture/indenturelaw13.BufferLast", spec := "bufferLast", unfollowed := true, recurses := true, apart := false, narrowed := true }
def BufferLastUptoSaid : Prop := bufferLastUptoRow.holds Try.pinned (OpenSpec.upto bufferLastSpec)

/-- 'indenturelaw13.BufferNone', WHERE WHAT IT READS IS OF BULK AT MOST 1048576: true; the input reads as it did. -/
def bufferNoneUptoRow : OpenClaim := { program := "ytkfndmbnfhhbiaa", sum := "ac1dd1e930ff04781709a99e352d168eb062790d99b7288c3695bf10df9f61fe", func := "indenture/indenturelaw13.BufferNone", spec := "bufferNone", unfollowed := true, recurses := true, apart := false, narrowed := true }
def BufferNoneUptoSaid : Prop := bufferNoneUptoRow.holds Try.pinned (OpenSpec.upto bufferNoneSpec)

end Rows
end Go.Proofs.Ytkfndmbnfhhbiaa
