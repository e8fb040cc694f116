/-
  No cell of these rows narrows 'for every input' (looked for: loops, veiled, ifaces, maps, wideKeys, modest, calm, conditions, laid).
  DERIVED. THE GIVEN ROWS OF THIS SEAT. 7 by the template 'for every input the law returns true; each argument reads behind the call as it read before'; 0 by the template 'total and deterministic' (their statements: YtnleldogmogkgaaTotals.lean).
  GIVEN WITH THE SEED: the statements are not yours to turn. If you find one false, say at which input.
  Laid BY PROGRAM, IN A SANDBOX (cutbox-rows.mjs): the forced cells as the released guide's own fill.sh prints them over the translation 9fe458654f66263c… (all of the seat's roots in one cut). By AI agents, Wed Nov 11 2026. No macro, syntax, notation, axiom, sorry.
-/
import Derived.Test.YtnleldogmogkgaaChecked
import GoSem.Claim
import GoSem.ClaimJoined
import GoSem.ClaimMapViews
import Derived.JoinedTies
import Derived.KernelRfl
namespace Go.Proofs.Ytnleldogmogkgaa
/- THE CELL 'sum', in the pinned program and in every row, IS THE sha256 OF THE DUMP (.gsa) THAT YtnleldogmogkgaaProg.lean LOADS. Nothing in Lean hashes anything: it is a label: what it is worth is what the hold of that sum in a sandbox is worth. -/
noncomputable def Try.pinned : Pinned := { name := "ytnleldogmogkgaa", sum := "9fe458654f66263caf51c28a9a6e3c7888c84415b05484ec7c116aeab576e8b1", checked := Try.checked }
namespace Rows
def none {H : Type} : Left H := { results := [], args := [] }

/-- 'indenturelaw08.StoreScans': WHATEVER THE INPUT: true; the input reads as it did. -/
def storeScansSpec : ChangeSpec := { name := "storeScans", fn := fun _ => fun
  | [d1, d2] => { results := [.lit (.bool true)], args := [d1, d2] }
  | _ => none }
def storeScansRow : OpenClaim := { program := "ytnleldogmogkgaa", sum := "9fe458654f66263caf51c28a9a6e3c7888c84415b05484ec7c116aeab576e8b1", func := "indenture/indenturelaw08.StoreScans", spec := "storeScans", inPlace := ["slices.overlaps[string]"], unfollowed := true, recurses := true, apart := false }
def StoreScansSaid : Prop := storeScansRow.holds Try.pinned (OpenSpec.ofChange storeScansSpec)

/-- ITS FALSE NEIGHBOUR: 'it returns false'. Refute it at one input. -/
def storeScansWrong : ChangeSpec := { name := "storeScans", fn := fun _ => fun
  | [d1, d2] => { results := [.lit (.bool false)], args := [d1, d2] }
  | _ => none }
def StoreScansWrongFalsely : Prop := storeScansRow.holds Try.pinned (OpenSpec.ofChange storeScansWrong)

/-- 'indenturelaw08.StoreWrote': WHATEVER THE INPUT: true; the input reads as it did. -/
def storeWroteSpec : ChangeSpec := { name := "storeWrote", fn := fun _ => fun
  | [d1, d2, d3] => { results := [.lit (.bool true)], args := [d1, d2, d3] }
  | _ => none }
def storeWroteRow : OpenClaim := { program := "ytnleldogmogkgaa", sum := "9fe458654f66263caf51c28a9a6e3c7888c84415b05484ec7c116aeab576e8b1", func := "indenture/indenturelaw08.StoreWrote", spec := "storeWrote", inPlace := ["slices.overlaps[string]"], unfollowed := true, recurses := true, apart := false }
def StoreWroteSaid : Prop := storeWroteRow.holds Try.pinned (OpenSpec.ofChange storeWroteSpec)

/-- ITS FALSE NEIGHBOUR: 'it returns false'. Refute it at one input. -/
def storeWroteWrong : ChangeSpec := { name := "storeWrote", fn := fun _ => fun
  | [d1, d2, d3] => { results := [.lit (.bool false)], args := [d1, d2, d3] }
  | _ => none }
def StoreWroteWrongFalsely : Prop := storeWroteRow.holds Try.pinned (OpenSpec.ofChange storeWroteWrong)

/-- 'indenturelaw08.StorePlaces': WHATEVER THE INPUT: true; the input reads as it did. -/
def storePlacesSpec : ChangeSpec := { name := "storePlaces", fn := fun _ => fun
  | [d1, d2, d3] => { results := [.lit (.bool true)], args := [d1, d2, d3] }
  | _ => none }
def storePlacesRow : OpenClaim := { program := "ytnleldogmogkgaa", sum := "9fe458654f66263caf51c28a9a6e3c7888c84415b05484ec7c116aeab576e8b1", func := "indenture/indenturelaw08.StorePlaces", spec := "storePlaces", inPlace := ["slices.overlaps[string]"], unfollowed := true, recurses := true, apart := false }
def StorePlacesSaid : Prop := storePlacesRow.holds Try.pinned (OpenSpec.ofChange storePlacesSpec)

/-- ITS FALSE NEIGHBOUR: 'it returns false'. Refute it at one input. -/
def storePlacesWrong : ChangeSpec := { name := "storePlaces", fn := fun _ => fun
  | [d1, d2, d3] => { results := [.lit (.bool false)], args := [d1, d2, d3] }
  | _ => none }
def StorePlacesWrongFalsely : Prop := storePlacesRow.holds Try.pinned (OpenSpec.ofChange storePlacesWrong)

/-- 'indenturelaw08.StoreKeeps': WHATEVER THE INPUT: true; the input reads as it did. -/
def storeKeepsSpec : ChangeSpec := { name := "storeKeeps", fn := fun _ => fun
  | [d1, d2] => { results := [.lit (.bool true)], args := [d1, d2] }
  | _ => none }
def storeKeepsRow : OpenClaim := { program := "ytnleldogmogkgaa", sum := "9fe458654f66263caf51c28a9a6e3c7888c84415b05484ec7c116aeab576e8b1", func := "indenture/indenturelaw08.StoreKeeps", spec := "storeKeeps", inPlace := ["slices.overlaps[string]"], unfollowed := true, recurses := true, apart := false }
def StoreKeepsSaid : Prop := storeKeepsRow.holds Try.pinned (OpenSpec.ofChange storeKeepsSpec)

/-- ITS FALSE NEIGHBOUR: 'it returns false'. Refute it at one input. -/
def storeKeepsWrong : ChangeSpec := { name := "storeKeeps", fn := fun _ => fun
  | [d1, d2] => { results := [.lit (.bool false)], args := [d1, d2] }
  | _ => none }
def StoreKeepsWrongFalsely : Prop := storeKeepsRow.holds Try.pinned (OpenSpec.ofChange storeKeepsWrong)

/-- 'indenturelaw08.StoreCopies': WHATEVER THE INPUT: true; the input reads as it did. -/
def storeCopiesSpec : ChangeSpec := { name := "storeCopies", fn := fun _ => fun
  | [d1, d2] => { results := [.lit (.bool true)], args := [d1, d2] }
  | _ => none }
def storeCopiesRow : OpenClaim := { program := "ytnleldogmogkgaa", sum := "9fe458654f66263caf51c28a9a6e3c7888c84415b05484ec7c116aeab576e8b1", func := "indenture/indenturelaw08.StoreCopies", spec := "storeCopies", inPlace := ["slices.overlaps[string]", "maps.clone"], unfollowed := true, recurses := true, apart := false }
def StoreCopiesSaid : Prop := storeCopiesRow.holds Try.pinned (OpenSpec.ofChange storeCopiesSpec)

/-- ITS FALSE NEIGHBOUR: 'it returns false'. Refute it at one input. -/
def storeCopiesWrong : ChangeSpec := { name := "storeCopies", fn := fun _ => fun
  | [d1, d2] => { results := [.lit (.bool false)], args := [d1, d2] }
  | _ => none }
def StoreCopiesWrongFalsely : Prop := storeCopiesRow.holds Try.pinned (OpenSpec.ofChange storeCopiesWrong)

/-- 'indenturelaw08.StoreActs': WHATEVER THE INPUT: true; the input reads as it did. -/
def storeActsSpec : ChangeSpec := { name := "storeActs", fn := fun _ => fun
  | [d] => { results := [.lit (.bool true)], args := [d] }
  | _ => none }
def storeActsRow : OpenClaim := { program := "ytnleldogmogkgaa", sum := "9fe458654f66263caf51c28a9a6e3c7888c84415b05484ec7c116aeab576e8b1", func := "indenture/indenturelaw08.StoreActs", spec := "storeActs", inPlace := ["slices.overlaps[string]"], unfollowed := true, recurses := true, apart := false }
def StoreActsSaid : Prop := storeActsRow.holds Try.pinned (OpenSpec.ofChange storeActsSpec)

/-- ITS FALSE NEIGHBOUR: 'it returns false'. Refute it at one input. -/
def storeActsWrong : ChangeSpec := { name := "storeActs", fn := fun _ => fun
  | [d] => { results := [.lit (.bool false)], args := [d] }
  | _ => none }
def StoreActsWrongFalsely : Prop := storeActsRow.holds Try.pinned (OpenSpec.ofChange storeActsWrong)

/-- 'indenturelaw08.StoreNone': WHATEVER THE INPUT: true; the input reads as it did. -/
def storeNoneSpec : ChangeSpec := { name := "storeNone", fn := fun _ => fun
  | [d] => { results := [.lit (.bool true)], args := [d] }
  | _ => none }
def storeNoneRow : OpenClaim := { program := "ytnleldogmogkgaa", sum := "9fe458654f66263caf51c28a9a6e3c7888c84415b05484ec7c116aeab576e8b1", func := "indenture/indenturelaw08.StoreNone", spec := "storeNone", inPlace := ["slices.overlaps[string]", "maps.clone"], unfollowed := true, recurses := true, apart := false }
def StoreNoneSaid : Prop := storeNoneRow.holds Try.pinned (OpenSpec.ofChange storeNoneSpec)

/-- ITS FALSE NEIGHBOUR: 'it returns false'. Refute it at one input. -/
def storeNoneWrong : ChangeSpec := { name := "storeNone", fn := fun _ => fun
  | [d] => { results := [.lit (.bool false)], args := [d] }
  | _ => none }
def StoreNoneWrongFalsely : Prop := storeNoneRow.holds Try.pinned (OpenSpec.ofChange storeNoneWrong)

/- THE SECOND FORM. 'bulk': how many values and letters a reading holds, each counted each time it is reached (what is shared counts as often as it is met; a slice's spare places count too). A statement '..UptoSaid' is the law's where the arguments, and the package variables that the reading takes, are together of bulk at most 1048576: NARROWER than '..Said'. Prove '..Said' where nothing that the law and all that it calls make is longer than what came in: it says more and counts as full. Else prove '..UptoSaid'. A law counts once. -/
mutual
def uptoBulk {H : Type} : DataW H → Nat
  | .lit (.string bytes) => bytes.length + 1
  | .lit _ => 1
  | .nil => 1
  | .ptr d => uptoBulk d + 1
  | .slice elems spare => uptoBulkAll elems + uptoBulkAll spare + 1
  | .agg parts => uptoBulkAll parts + 1
  | .iface _ d => uptoBulk d + 1
  | .map entries => uptoBulkEntries entries + 1
  | .held _ => 1
def uptoBulkAll {H : Type} : List (DataW H) → Nat
  | [] => 0
  | d :: r => uptoBulk d + uptoBulkAll r
def uptoBulkEntries {H : Type} : List (Lit × DataW H) → Nat
  | [] => 0
  | x :: r => uptoBulkEntry x + uptoBulkEntries r
def uptoBulkEntry {H : Type} : Lit × DataW H → Nat
  | (.string bytes, d) => bytes.length + uptoBulk d + 1
  | (_, d) => uptoBulk d + 1
 end
def uptoSmall : (H : Type) → List (DataW H) → Bool := fun _ ds => decide (uptoBulkAll ds ≤ 1048576)
def OpenSpec.upto (s : _root_.Go.ChangeSpec) : _root_.Go.OpenSpec := { _root_.Go.OpenSpec.ofChange s with cond := some uptoSmall }

/-- 'indenturelaw08.StoreScans', WHERE WHAT IT READS IS OF BULK AT MOST 1048576: true; the input reads as it did. -/
def storeScansUptoRow : OpenClaim := { program := "ytnleldogmogkgaa", sum := "9fe458654f66263caf51c28a9a6e3c7888c84415b05484ec7c116aeab576e8b1", func := "indenture/indenturelaw08.StoreScans", spec := "storeScans", inPlace := ["slices.overlaps[string]"], unfollowed := true, recurses := true, apart := false, narrowed := true }
def StoreScansUptoSaid : Prop := storeScansUptoRow.holds Try.pinned (OpenSpec.upto storeScansSpec)

/-- 'indenturelaw08.StoreWrote', WHERE WHAT IT READS IS OF BULK AT MOST 1048576: true; the input reads as it did. -/
def storeWroteUptoRow : OpenClaim := { program := "ytnleldogmogkgaa", sum := "9fe458654f66263caf51c28a9a6e3c7888c84415b05484ec7c116aeab576e8b1", func := "indenture/indenturelaw08.StoreWrote", spec := "storeWrote", inPlace := ["slices.overlaps[string]"], unfollowed := true, recurses := true, apart := false, narrowed := true }
def StoreWroteUptoSaid : Prop := storeWroteUptoRow.holds Try.pinned (OpenSpec.upto storeWroteSpec)

/-- 'indenturelaw08.StorePlaces', WHERE WHAT IT READS IS OF BULK AT MOST 1048576: true; the input reads as it did. -/
def storePlacesUptoRow : OpenClaim := { program := "ytnleldogmogkgaa", sum := "9fe458654f66263caf51c28a9a6e3c7888c84415b05484ec7c116aeab576e8b1", func := "indenture/indenturelaw08.StorePlaces", spec := "storePlaces", inPlace := ["slices.overlaps[string]"], unfollowed := true, recurses := true, apart := false, narrowed := true }
def StorePlacesUptoSaid : Prop := storePlacesUptoRow.holds Try.pinned (OpenSpec.upto storePlacesSpec)

/-- 'indenturelaw08.StoreKeeps', WHERE WHAT IT READS IS OF BULK AT MOST 1048576: true; the input reads as it did. -/
def storeKeepsUptoRow : OpenClaim := { program := "ytnleldogmogkgaa", sum := "9fe458654f66263caf51c28a9a6e3c7888c84415b05484ec7c116aeab576e8b1", func := "indenture/indenturelaw08.StoreKeeps", spec := "storeKeeps", inPlace := ["slices.overlaps[string]"], unfollowed := true, recurses := true, apart := false, narrowed := true }
def StoreKeepsUptoSaid : Prop := storeKeepsUptoRow.holds Try.pinned (OpenSpec.upto storeKeepsSpec)

/-- 'indenturelaw08.StoreCopies', WHERE WHAT IT READS IS OF BULK AT MOST 1048576: true; the input reads as it did. -/
def storeCopiesUptoRow : OpenClaim := { program := "ytnleldogmogkgaa", sum := "9fe458654f66263caf51c28a9a6e3c7888c84415b05484ec7c116aeab576e8b1", func := "indenture/indenturelaw08.StoreCopies", spec := "storeCopies", inPlace := ["slices.overlaps[string]", "maps.clone"], unfollowed := true, recurses := true, apart := false, narrowed := true }
def StoreCopiesUptoSaid : Prop := storeCopiesUptoRow.holds Try.pinned (OpenSpec.upto storeCopiesSpec)

/-- 'indenturelaw08.StoreActs', WHERE WHAT IT READS IS OF BULK AT MOST 1048576: true; the input reads as it did. -/
def storeActsUptoRow : OpenClaim := { program := "ytnleldogmogkgaa", sum := "9fe458654f66263caf51c28a9a6e3c7888c84415b05484ec7c116aeab576e8b1", func := "indenture/indenturelaw08.StoreActs", spec := "storeActs", inPlace := ["slices.overlaps[string]"], unfollowed := true, recurses := true, apart := false, narrowed := true }
def StoreActsUptoSaid : Prop := storeActsUptoRow.holds Try.pinned (OpenSpec.upto storeActsSpec)

/-- 'indenturelaw08.StoreNone', WHERE WHAT IT READS IS OF BULK AT MOST 1048576: true; the input reads as it did. -/
def storeNoneUptoRow : OpenClaim := { program := "ytnleldogmogkgaa", sum := "9fe458654f66263caf51c28a9a6e3c7888c84415b05484ec7c116aeab576e8b1", func := "indenture/indenturelaw08.StoreNone", spec := "storeNone", inPlace := ["slices.overlaps[string]", "maps.clone"], unfollowed := true, recurses := true, apart := false, narrowed := true }
def StoreNoneUptoSaid : Prop := storeNoneUptoRow.holds Try.pinned (OpenSpec.upto storeNoneSpec)

end Rows
end Go.Proofs.Ytnleldogmogkgaa
