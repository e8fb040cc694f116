/-
  No cell of these rows narrows 'for every input' (looked for: loops, veiled, ifaces, maps, wideKeys, modest, calm, conditions, laid).
  DERIVED. THE GIVEN ROWS OF THIS SEAT. 6 by the template 'for every input the law returns true; each argument reads behind the call as it read before'; 0 by the template 'total and deterministic' (their statements: YtlbcckdbpgofmaaTotals.lean).
  GIVEN WITH THE SEED: the statements are not yours to turn. If you find one false, say at which input.
  Laid BY PROGRAM, IN A SANDBOX (cutbox-rows.mjs): the forced cells as the released guide's own fill.sh prints them over the translation f437bcc251832079… (all of the seat's roots in one cut). By AI agents, Wed Nov 11 2026. No macro, syntax, notation, axiom, sorry.
-/
import Derived.Test.YtlbcckdbpgofmaaChecked
import GoSem.Claim
import GoSem.ClaimJoined
import GoSem.ClaimMapViews
import Derived.JoinedTies
import Derived.KernelRfl
namespace Go.Proofs.Ytlbcckdbpgofmaa
/- THE CELL 'sum', in the pinned program and in every row, IS THE sha256 OF THE DUMP (.gsa) THAT YtlbcckdbpgofmaaProg.lean LOADS. Nothing in Lean hashes anything: it is a label: what it is worth is what the hold of that sum in a sandbox is worth. -/
noncomputable def Try.pinned : Pinned := { name := "ytlbcckdbpgofmaa", sum := "f437bcc251832079c4ef06df96f87c89a0325349b5bb1f39d4a3614a05a8c09a", checked := Try.checked }
namespace Rows
def none {H : Type} : Left H := { results := [], args := [] }

/-- 'indenturelaw14.CertifyMays': WHATEVER THE INPUT: true; the input reads as it did. -/
def certifyMaysSpec : ChangeSpec := { name := "certifyMays", fn := fun _ => fun
  | [d1, d2] => { results := [.lit (.bool true)], args := [d1, d2] }
  | _ => none }
def certifyMaysRow : OpenClaim := { program := "ytlbcckdbpgofmaa", sum := "f437bcc251832079c4ef06df96f87c89a0325349b5bb1f39d4a3614a05a8c09a", func := "indenture/indenturelaw14.CertifyMays", spec := "certifyMays", unfollowed := true, recurses := true, plainKeys := false, apart := false }
def CertifyMaysSaid : Prop := certifyMaysRow.holds Try.pinned (OpenSpec.ofChange certifyMaysSpec)

/-- ITS FALSE NEIGHBOUR: 'it returns false'. Refute it at one input. -/
def certifyMaysWrong : ChangeSpec := { name := "certifyMays", fn := fun _ => fun
  | [d1, d2] => { results := [.lit (.bool false)], args := [d1, d2] }
  | _ => none }
def CertifyMaysWrongFalsely : Prop := certifyMaysRow.holds Try.pinned (OpenSpec.ofChange certifyMaysWrong)

/-- 'indenturelaw14.CertifySplits': WHATEVER THE INPUT: true; the input reads as it did. -/
def certifySplitsSpec : ChangeSpec := { name := "certifySplits", fn := fun _ => fun
  | [d1, d2, d3] => { results := [.lit (.bool true)], args := [d1, d2, d3] }
  | _ => none }
def certifySplitsRow : OpenClaim := { program := "ytlbcckdbpgofmaa", sum := "f437bcc251832079c4ef06df96f87c89a0325349b5bb1f39d4a3614a05a8c09a", func := "indenture/indenturelaw14.CertifySplits", spec := "certifySplits", unfollowed := true, recurses := true, plainKeys := false, apart := false }
def CertifySplitsSaid : Prop := certifySplitsRow.holds Try.pinned (OpenSpec.ofChange certifySplitsSpec)

/-- ITS FALSE NEIGHBOUR: 'it returns false'. Refute it at one input. -/
def certifySplitsWrong : ChangeSpec := { name := "certifySplits", fn := fun _ => fun
  | [d1, d2, d3] => { results := [.lit (.bool false)], args := [d1, d2, d3] }
  | _ => none }
def CertifySplitsWrongFalsely : Prop := certifySplitsRow.holds Try.pinned (OpenSpec.ofChange certifySplitsWrong)

/-- 'indenturelaw14.CertifyWeaker': WHATEVER THE INPUT: true; the input reads as it did. -/
def certifyWeakerSpec : ChangeSpec := { name := "certifyWeaker", fn := fun _ => fun
  | [d1, d2, d3] => { results := [.lit (.bool true)], args := [d1, d2, d3] }
  | _ => none }
def certifyWeakerRow : OpenClaim := { program := "ytlbcckdbpgofmaa", sum := "f437bcc251832079c4ef06df96f87c89a0325349b5bb1f39d4a3614a05a8c09a", func := "indenture/indenturelaw14.CertifyWeaker", spec := "certifyWeaker", unfollowed := true, recurses := true, plainKeys := false, apart := false }
def CertifyWeakerSaid : Prop := certifyWeakerRow.holds Try.pinned (OpenSpec.ofChange certifyWeakerSpec)

/-- ITS FALSE NEIGHBOUR: 'it returns false'. Refute it at one input. -/
def certifyWeakerWrong : ChangeSpec := { name := "certifyWeaker", fn := fun _ => fun
  | [d1, d2, d3] => { results := [.lit (.bool false)], args := [d1, d2, d3] }
  | _ => none }
def CertifyWeakerWrongFalsely : Prop := certifyWeakerRow.holds Try.pinned (OpenSpec.ofChange certifyWeakerWrong)

/-- 'indenturelaw14.CertifyReads': WHATEVER THE INPUT: true; the input reads as it did. -/
def certifyReadsSpec : ChangeSpec := { name := "certifyReads", fn := fun _ => fun
  | [d1, d2, d3] => { results := [.lit (.bool true)], args := [d1, d2, d3] }
  | _ => none }
def certifyReadsRow : OpenClaim := { program := "ytlbcckdbpgofmaa", sum := "f437bcc251832079c4ef06df96f87c89a0325349b5bb1f39d4a3614a05a8c09a", func := "indenture/indenturelaw14.CertifyReads", spec := "certifyReads", unfollowed := true, recurses := true, plainKeys := false, apart := false }
def CertifyReadsSaid : Prop := certifyReadsRow.holds Try.pinned (OpenSpec.ofChange certifyReadsSpec)

/-- ITS FALSE NEIGHBOUR: 'it returns false'. Refute it at one input. -/
def certifyReadsWrong : ChangeSpec := { name := "certifyReads", fn := fun _ => fun
  | [d1, d2, d3] => { results := [.lit (.bool false)], args := [d1, d2, d3] }
  | _ => none }
def CertifyReadsWrongFalsely : Prop := certifyReadsRow.holds Try.pinned (OpenSpec.ofChange certifyReadsWrong)

/-- 'indenturelaw14.CertifyAsks': WHATEVER THE INPUT: true; the input reads as it did. -/
def certifyAsksSpec : ChangeSpec := { name := "certifyAsks", fn := fun _ => fun
  | [d1, d2] => { results := [.lit (.bool true)], args := [d1, d2] }
  | _ => none }
def certifyAsksRow : OpenClaim := { program := "ytlbcckdbpgofmaa", sum := "f437bcc251832079c4ef06df96f87c89a0325349b5bb1f39d4a3614a05a8c09a", func := "indenture/indenturelaw14.CertifyAsks", spec := "certifyAsks", unfollowed := true, recurses := true, plainKeys := false, apart := false }
def CertifyAsksSaid : Prop := certifyAsksRow.holds Try.pinned (OpenSpec.ofChange certifyAsksSpec)

/-- ITS FALSE NEIGHBOUR: 'it returns false'. Refute it at one input. -/
def certifyAsksWrong : ChangeSpec := { name := "certifyAsks", fn := fun _ => fun
  | [d1, d2] => { results := [.lit (.bool false)], args := [d1, d2] }
  | _ => none }
def CertifyAsksWrongFalsely : Prop := certifyAsksRow.holds Try.pinned (OpenSpec.ofChange certifyAsksWrong)

/-- 'indenturelaw14.CertifyOwn': WHATEVER THE INPUT: true; the input reads as it did. -/
def certifyOwnSpec : ChangeSpec := { name := "certifyOwn", fn := fun _ => fun
  | [d1, d2] => { results := [.lit (.bool true)], args := [d1, d2] }
  | _ => none }
def certifyOwnRow : OpenClaim := { program := "ytlbcckdbpgofmaa", sum := "f437bcc251832079c4ef06df96f87c89a0325349b5bb1f39d4a3614a05a8c09a", func := "indenture/indenturelaw14.CertifyOwn", spec := "certifyOwn", unfollowed := true, recurses := true, plainKeys := false, apart := false }
def CertifyOwnSaid : Prop := certifyOwnRow.holds Try.pinned (OpenSpec.ofChange certifyOwnSpec)

/-- ITS FALSE NEIGHBOUR: 'it returns false'. Refute it at one input. -/
def certifyOwnWrong : ChangeSpec := { name := "certifyOwn", fn := fun _ => fun
  | [d1, d2] => { results := [.lit (.bool false)], args := [d1, d2] }
  | _ => none }
def CertifyOwnWrongFalsely : Prop := certifyOwnRow.holds Try.pinned (OpenSpec.ofChange certifyOwnWrong)

/- THE SECOND FORM. 'bulk': how many values and letters a reading holds, each counted each time it is reached (what is shared counts as often as it is met; a slice's spare places count too). A statement '..UptoSaid' is the law's where the arguments, and the package variables that the reading takes, are together of bulk at most 1048576: NARROWER than '..Said'. Prove '..Said' where nothing that the law and all that it calls make is longer than what came in: it says more and counts as full. Else prove '..UptoSaid'. A law counts once. -/
mutual
def uptoBulk {H : Type} : DataW H → Nat
  | .lit (.string bytes) => bytes.length + 1
  | .lit _ => 1
  | .nil => 1
  | .ptr d => uptoBulk d + 1
  | .slice elems spare => uptoBulkAll elems + uptoBulkAll spare + 1
  | .agg parts => uptoBulkAll parts + 1
  | .iface _ d => uptoBulk d + 1
  | .map entries => uptoBulkEntries entries + 1
  | .held _ => 1
def uptoBulkAll {H : Type} : List (DataW H) → Nat
  | [] => 0
  | d :: r => uptoBulk d + uptoBulkAll r
def uptoBulkEntries {H : Type} : List (Lit × DataW H) → Nat
  | [] => 0
  | x :: r => uptoBulkEntry x + uptoBulkEntries r
def uptoBulkEntry {H : Type} : Lit × DataW H → Nat
  | (.string bytes, d) => bytes.length + uptoBulk d + 1
  | (_, d) => uptoBulk d + 1
 end
def uptoSmall : (H : Type) → List (DataW H) → Bool := fun _ ds => decide (uptoBulkAll ds ≤ 1048576)
def OpenSpec.upto (s : _root_.Go.ChangeSpec) : _root_.Go.OpenSpec := { _root_.Go.OpenSpec.ofChange s with cond := some uptoSmall }

/-- 'indenturelaw14.CertifyMays', WHERE WHAT IT READS IS OF BULK AT MOST 1048576: true; the input reads as it did. -/
def certifyMaysUptoRow : OpenClaim := { program := "ytlbcckdbpgofmaa", sum := "f437bcc251832079c4ef06df96f87c89a0325349b5bb1f39d4a3614a05a8c09a", func := "indenture/indenturelaw14.CertifyMays", spec := "certifyMays", unfollowed := true, recurses := true, plainKeys := false, apart := false, narrowed := true }
def CertifyMaysUptoSaid : Prop := certifyMaysUptoRow.holds Try.pinned (OpenSpec.upto certifyMaysSpec)

/-- 'indenturelaw14.CertifySplits', WHERE WHAT IT READS IS OF BULK AT MOST 1048576: true; the input reads as it did. -/
def certifySplitsUptoRow : OpenClaim := { program := "ytlbcckdbpgofmaa", sum := "f437bcc251832079c4ef06df96f87c89a0325349b5bb1f39d4a3614a05a8c09a", func := "indenture/indenturelaw14.CertifySplits", spec := "certifySplits", unfollowed := true, recurses := true, plainKeys := false, apart := false, narrowed := true }
def CertifySplitsUptoSaid : Prop := certifySplitsUptoRow.holds Try.pinned (OpenSpec.upto certifySplitsSpec)

/-- 'indenturelaw14.CertifyWeaker', WHERE WHAT IT READS IS OF BULK AT MOST 1048576: true; the input reads as it did. -/
def certifyWeakerUptoRow : OpenClaim := { program := "ytlbcckdbpgofmaa", sum := "f437bcc251832079c4ef06df96f87c89a0325349b5bb1f39d4a3614a05a8c09a", func := "indenture/indenturelaw14.CertifyWeaker", spec := "certifyWeaker", unfollowed := true, recurses := true, plainKeys := false, apart := false, narrowed := true }
def CertifyWeakerUptoSaid : Prop := certifyWeakerUptoRow.holds Try.pinned (OpenSpec.upto certifyWeakerSpec)

/-- 'indenturelaw14.CertifyReads', WHERE WHAT IT READS IS OF BULK AT MOST 1048576: true; the input reads as it did. -/
def certifyReadsUptoRow : OpenClaim := { program := "ytlbcckdbpgofmaa", sum := "f437bcc251832079c4ef06df96f87c89a0325349b5bb1f39d4a3614a05a8c09a", func := "indenture/indenturelaw14.CertifyReads", spec := "certifyReads", unfollowed := true, recurses := true, plainKeys := false, apart := false, narrowed := true }
def CertifyReadsUptoSaid : Prop := certifyReadsUptoRow.holds Try.pinned (OpenSpec.upto certifyReadsSpec)

/-- 'indenturelaw14.CertifyAsks', WHERE WHAT IT READS IS OF BULK AT MOST 1048576: true; the input reads as it did. -/
def certifyAsksUptoRow : OpenClaim := { program := "ytlbcckdbpgofmaa", sum := "f437bcc251832079c4ef06df96f87c89a0325349b5bb1f39d4a3614a05a8c09a", func := "indenture/indenturelaw14.CertifyAsks", spec := "certifyAsks", unfollowed := true, recurses := true, plainKeys := false, apart := false, narrowed := true }
def CertifyAsksUptoSaid : Prop := certifyAsksUptoRow.holds Try.pinned (OpenSpec.upto certifyAsksSpec)

/-- 'indenturelaw14.CertifyOwn', WHERE WHAT IT READS IS OF BULK AT MOST 1048576: true; the input reads as it did. -/
def certifyOwnUptoRow : OpenClaim := { program := "ytlbcckdbpgofmaa", sum := "f437bcc251832079c4ef06df96f87c89a0325349b5bb1f39d4a3614a05a8c09a", func := "indenture/indenturelaw14.CertifyOwn", spec := "certifyOwn", unfollowed := true, recurses := true, plainKeys := false, apart := false, narrowed := true }
def CertifyOwnUptoSaid : Prop := certifyOwnUptoRow.holds Try.pinned (OpenSpec.upto certifyOwnSpec)

end Rows
end Go.Proofs.Ytlbcckdbpgofmaa
