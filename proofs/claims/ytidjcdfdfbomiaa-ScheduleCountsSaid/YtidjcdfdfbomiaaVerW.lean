import Derived.Test.YtidjcdfdfbomiaaOpenW
import Derived.Test.YtidjcdfdfbomiaaW1
/-! The row's readings of Ops, plans and numbers. -/
namespace Go.Proofs.Ytidjcdfdfbomiaa
theorem Opens.weak {α : Type} {P : Program} {T : TypeId} {t : Ty α} {wf wf' : α → Prop} (h : Opens P T t wf) (hm : ∀ x, wf x → wf' x) : Opens P T t wf' := fun H enc w spare held fuel cs x hx hf => by
  obtain ⟨d, hk, hw⟩ := h H enc w spare held fuel cs x hx hf
  exact ⟨d, hk, hm d hw⟩
theorem opens_op : Opens Try.prog 48 tOp OpOk := by
  intro H enc w spare held fuel cs x hx hfit
  have h : Opens Try.prog 48 ((Ty.int .i64).pair ((Ty.int .i64).pair (Ty.bool.pair (Ty.str.pair (Ty.str.pair (Ty.int .i64)))))) _ := opens_struct Try.underlying48 (by kernel_rfl)
    (opensFs_cons rfl (by kernel_rfl) rfl (opens_int Try.underlying3) (opensFs_cons rfl (by kernel_rfl) rfl (opens_int Try.underlying3) (opensFs_cons rfl (by kernel_rfl) rfl (opens_bool Try.underlying4)
      (opensFs_cons rfl (by kernel_rfl) rfl (opens_str Try.underlying9) (opensFs_cons rfl (by kernel_rfl) rfl (opens_str Try.underlying9) (opensFs_one rfl (by kernel_rfl) (opens_int Try.underlying3)))))))
  obtain ⟨⟨a, b, c, d, e, f⟩, ⟨_, _, rfl, h1, _, _, rfl, h2, _, _, rfl, h3, _, _, rfl, h4, _, _, rfl, h5, h6⟩, w1, w2, w3, w4, w5, w6⟩ := h _ _ _ _ _ _ _ _ hx hfit
  refine ⟨⟨a, b, c, d, e, f⟩, ?_, w4, w5⟩
  rw [show _ = _ from h1, show _ = _ from h2, show _ = _ from h3, show _ = _ from h4, show _ = _ from h5, show _ = _ from h6]
  rfl
theorem bytes48 : Try.prog.bytesOf 48 = 64 := by kernel_rfl
theorem opens_ops : Opens Try.prog 38 tOp.slice (fun l => (∀ o ∈ l, OpOk o) ∧ l.length * 64 ≤ 140737488351232) := (opens_slice Try.underlying38 (by kernel_rfl) (by decide) opens_op).weak fun l h => ⟨h.1, by
  have := h.2; rw [bytes48] at this; have e : reachBytes = 140737488351232 := rfl; omega⟩
theorem opens_plan : Opens Try.prog 46 tPlan PlanOk :=
  (opens_iso (g := fun y => (⟨y.1, y.2⟩ : Plan)) (fun _ => rfl) (opens_struct Try.underlying46 (by kernel_rfl)
    (opensFs_cons rfl (by kernel_rfl) rfl (opens_int Try.underlying3) (opensFs_one rfl (by kernel_rfl) opens_ops)))).weak fun _ h => h.2
theorem opens_plans : Opens Try.prog 22 tPlan.slice (fun l => ∀ p ∈ l, PlanOk p) := (opens_slice Try.underlying22 (by kernel_rfl) (by decide) opens_plan).weak fun _ h => h.1
theorem opens_ints : Opens Try.prog 34 tI.slice (fun _ => True) := (opens_slice Try.underlying34 (by kernel_rfl) (by decide) (opens_int Try.underlying3)).weak fun _ _ => trivial
end Go.Proofs.Ytidjcdfdfbomiaa
