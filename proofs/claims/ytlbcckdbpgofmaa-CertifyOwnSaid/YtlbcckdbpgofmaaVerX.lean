import Derived.Test.YtlbcckdbpgofmaaVerW
/-! The row's reading of a record, with the room of its reads. -/
namespace Go.Proofs.Ytlbcckdbpgofmaa
theorem opens_reads2 : Opens Try.prog 22 tRead.slice (fun l => (ShortR l ∧ l.length ≤ 140737488351232) ∧ l.length * 64 ≤ 140737488351232) := (opens_slice Try.underlying22 (by kernel_rfl) (by decide) opens_read).weak fun l h => ⟨⟨h.1, by
  have := h.2; rw [bytes41] at this; have e : reachBytes = 140737488351232 := rfl; omega⟩, by
  have := h.2; rw [bytes41] at this; have e : reachBytes = 140737488351232 := rfl; omega⟩
def RecBig (r : Rec) : Prop := RecOk r ∧ r.reads.length * 64 ≤ 140737488351232
theorem opens_rec2 : Opens Try.prog 25 tRec RecBig :=
  (opens_iso (g := fun y => (⟨y.1, y.2.1, y.2.2.1, y.2.2.2.1, y.2.2.2.2⟩ : Rec)) (fun _ => rfl) (opens_struct Try.underlying25 (by kernel_rfl)
    (opensFs_cons rfl (by kernel_rfl) rfl (opens_int Try.underlying3) (opensFs_cons rfl (by kernel_rfl) rfl (opens_int Try.underlying3) (opensFs_cons rfl (by kernel_rfl) rfl (opens_bool Try.underlying4) (opensFs_cons rfl (by kernel_rfl) rfl opens_reads2 (opensFs_one rfl (by kernel_rfl) opens_pairs))))))).weak fun x h =>
      ⟨⟨h.2.2.2.2.1, h.2.2.2.1.1.1, h.2.2.2.2.2, h.2.2.2.1.1.2⟩, h.2.2.2.1.2⟩
end Go.Proofs.Ytlbcckdbpgofmaa
