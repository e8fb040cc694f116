import Derived.Test.YtidfogcilegloaaOpenW
import Derived.Test.YtidfogcilegloaaS12
/-! The row's readings of acts. -/
namespace Go.Proofs.Ytidfogcilegloaa
theorem Opens.weak {α : Type} {P : Program} {T : TypeId} {t : Ty α} {wf wf' : α → Prop} (h : Opens P T t wf) (hm : ∀ x, wf x → wf' x) : Opens P T t wf' := fun H enc w spare held fuel cs x hx hf => by
  obtain ⟨d, hk, hw⟩ := h H enc w spare held fuel cs x hx hf
  exact ⟨d, hk, hm d hw⟩
theorem opens_pair : Opens Try.prog 68 tPair (fun v => v.key.size ≤ 140737488351232 ∧ v.val.size ≤ 140737488351232) := by
  intro H enc w spare held fuel cs x hx hfit
  have h : Opens Try.prog 68 (Ty.str.pair (Ty.str.pair Ty.bool)) _ := opens_struct Try.underlying68 (by kernel_rfl)
    (opensFs_cons rfl (by kernel_rfl) rfl (opens_str Try.underlying9) (opensFs_cons rfl (by kernel_rfl) rfl (opens_str Try.underlying9) (opensFs_one rfl (by kernel_rfl) (opens_bool Try.underlying4))))
  obtain ⟨⟨a, b, c⟩, ⟨_, _, rfl, h1, _, _, rfl, h2, h3⟩, w1, w2, _⟩ := h _ _ _ _ _ _ _ _ hx hfit
  refine ⟨⟨a, b, c⟩, ?_, w1, w2⟩
  rw [show _ = _ from h1, show _ = _ from h2, show _ = _ from h3]
  rfl
theorem opens_pairs : Opens Try.prog 32 tPair.slice Short := (opens_slice Try.underlying32 (by kernel_rfl) (by decide) opens_pair).weak fun _ h => h.1
theorem opens_lact : Opens Try.prog 40 tLAct LActOk := by
  intro H enc w spare held fuel cs x hx hfit
  have h : Opens Try.prog 40 ((Ty.int .i64).pair ((Ty.int .i64).pair (Ty.str.pair (Ty.str.pair (Ty.bool.pair tPair.slice))))) _ := opens_struct Try.underlying40 (by kernel_rfl)
    (opensFs_cons rfl (by kernel_rfl) rfl (opens_int Try.underlying3) (opensFs_cons rfl (by kernel_rfl) rfl (opens_int Try.underlying3) (opensFs_cons rfl (by kernel_rfl) rfl (opens_str Try.underlying9) (opensFs_cons rfl (by kernel_rfl) rfl (opens_str Try.underlying9) (opensFs_cons rfl (by kernel_rfl) rfl (opens_bool Try.underlying4) (opensFs_one rfl (by kernel_rfl) opens_pairs))))))
  obtain ⟨⟨a, b, c, d, e, f⟩, hk, w1, w2, w3, w4, w5, w6⟩ := h _ _ _ _ _ _ _ _ hx hfit
  refine ⟨⟨a, b, c, d, e, f⟩, hk, w3, w4, w6, ?_⟩
  have w2 : (Lit.int .i64 b).wf = true := w2
  simp [Lit.wf, IntKind.min, IntKind.max, IntKind.signed, IntKind.bits] at w2
  exact ⟨by show -9223372036854775808 ≤ b; omega, by show b ≤ 9223372036854775807; omega⟩
theorem opens_lacts : Opens Try.prog 42 tLAct.slice (fun l => ∀ a ∈ l, LActOk a) := (opens_slice Try.underlying42 (by kernel_rfl) (by decide) opens_lact).weak fun _ h => h.1
end Go.Proofs.Ytidfogcilegloaa
