import Derived.Test.YtkfndmbnfhhbiaaOpenW
import Derived.Test.YtkfndmbnfhhbiaaW8
/-! The row's readings of pairs, acts and ranges. -/
namespace Go.Proofs.Ytkfndmbnfhhbiaa
theorem Opens.weak {α : Type} {P : Program} {T : TypeId} {t : Ty α} {wf wf' : α → Prop} (h : Opens P T t wf) (hm : ∀ x, wf x → wf' x) : Opens P T t wf' := fun H enc w spare held fuel cs x hx hf => by
  obtain ⟨d, hk, hw⟩ := h H enc w spare held fuel cs x hx hf
  exact ⟨d, hk, hm d hw⟩
theorem opens_pair : Opens Try.prog 52 tPair (fun v => v.key.size ≤ 140737488351232 ∧ v.val.size ≤ 140737488351232) := by
  intro H enc w spare held fuel cs x hx hfit
  have h : Opens Try.prog 52 (Ty.str.pair (Ty.str.pair Ty.bool)) _ := opens_struct Try.underlying52 (by kernel_rfl)
    (opensFs_cons rfl (by kernel_rfl) rfl (opens_str Try.underlying9) (opensFs_cons rfl (by kernel_rfl) rfl (opens_str Try.underlying9) (opensFs_one rfl (by kernel_rfl) (opens_bool Try.underlying4))))
  obtain ⟨⟨a, b, c⟩, ⟨_, _, rfl, h1, _, _, rfl, h2, h3⟩, w1, w2, _⟩ := h _ _ _ _ _ _ _ _ hx hfit
  refine ⟨⟨a, b, c⟩, ?_, w1, w2⟩
  rw [show _ = _ from h1, show _ = _ from h2, show _ = _ from h3]
  rfl
theorem opens_act : Opens Try.prog 35 tPair (fun v => v.key.size ≤ 140737488351232 ∧ v.val.size ≤ 140737488351232) := by
  intro H enc w spare held fuel cs x hx hfit
  have h : Opens Try.prog 35 (Ty.str.pair (Ty.str.pair Ty.bool)) _ := opens_struct Try.underlying35 (by kernel_rfl)
    (opensFs_cons rfl (by kernel_rfl) rfl (opens_str Try.underlying9) (opensFs_cons rfl (by kernel_rfl) rfl (opens_str Try.underlying9) (opensFs_one rfl (by kernel_rfl) (opens_bool Try.underlying4))))
  obtain ⟨⟨a, b, c⟩, ⟨_, _, rfl, h1, _, _, rfl, h2, h3⟩, w1, w2, _⟩ := h _ _ _ _ _ _ _ _ hx hfit
  refine ⟨⟨a, b, c⟩, ?_, w1, w2⟩
  rw [show _ = _ from h1, show _ = _ from h2, show _ = _ from h3]
  rfl
theorem opens_pairs : Opens Try.prog 23 tPair.slice Short := (opens_slice Try.underlying23 (by kernel_rfl) (by decide) opens_pair).weak fun _ h => h.1
theorem opens_acts : Opens Try.prog 22 tPair.slice Short := (opens_slice Try.underlying22 (by kernel_rfl) (by decide) opens_act).weak fun _ h => h.1
end Go.Proofs.Ytkfndmbnfhhbiaa
