import Derived.Test.YtnleldogmogkgaaOpenW
import Derived.Test.YtnleldogmogkgaaW16
/-! The row's readings of pairs and acts. -/
namespace Go.Proofs.Ytnleldogmogkgaa
theorem Opens.weak {α : Type} {P : Program} {T : TypeId} {t : Ty α} {wf wf' : α → Prop} (h : Opens P T t wf) (hm : ∀ x, wf x → wf' x) : Opens P T t wf' := fun H enc w spare held fuel cs x hx hf => by
  obtain ⟨d, hk, hw⟩ := h H enc w spare held fuel cs x hx hf
  exact ⟨d, hk, hm d hw⟩
theorem opens_pair : Opens Try.prog 35 tPair (fun v => v.key.size ≤ 140737488351232 ∧ v.val.size ≤ 140737488351232) := by
  intro H enc w spare held fuel cs x hx hfit
  have h : Opens Try.prog 35 (Ty.str.pair (Ty.str.pair Ty.bool)) _ := opens_struct Try.underlying35 (by kernel_rfl)
    (opensFs_cons rfl (by kernel_rfl) rfl (opens_str Try.underlying9) (opensFs_cons rfl (by kernel_rfl) rfl (opens_str Try.underlying9) (opensFs_one rfl (by kernel_rfl) (opens_bool Try.underlying4))))
  obtain ⟨⟨a, b, c⟩, ⟨_, _, rfl, h1, _, _, rfl, h2, h3⟩, w1, w2, _⟩ := h _ _ _ _ _ _ _ _ hx hfit
  refine ⟨⟨a, b, c⟩, ?_, w1, w2⟩
  rw [show _ = _ from h1, show _ = _ from h2, show _ = _ from h3]
  rfl
theorem opens_pairs : Opens Try.prog 23 tPair.slice Short := (opens_slice Try.underlying23 (by kernel_rfl) (by decide) opens_pair).weak fun _ h => h.1
theorem opens_act : Opens Try.prog 25 tAct ActOk :=
  (opens_iso (g := fun y => (⟨y.1, y.2.1, y.2.2.1, y.2.2.2.1, y.2.2.2.2.1, y.2.2.2.2.2⟩ : SAct)) (fun _ => rfl) (opens_struct Try.underlying25 (by kernel_rfl)
    (opensFs_cons rfl (by kernel_rfl) rfl (opens_int Try.underlying3) (opensFs_cons rfl (by kernel_rfl) rfl (opens_int Try.underlying3) (opensFs_cons rfl (by kernel_rfl) rfl (opens_int Try.underlying3)
      (opensFs_cons rfl (by kernel_rfl) rfl opens_pairs (opensFs_cons rfl (by kernel_rfl) rfl (opens_str Try.underlying9) (opensFs_one rfl (by kernel_rfl) (opens_str Try.underlying9))))))))).weak fun a h => by
    obtain ⟨-, h2, -, h4, h5, h6⟩ := h
    have h2' : (Lit.int .i64 a.n).wf = true := h2
    simp [Lit.wf, IntKind.min, IntKind.max, IntKind.signed, IntKind.bits] at h2'
    exact ⟨h5, h6, h4, by omega, by omega⟩
theorem opens_acts : Opens Try.prog 22 tAct.slice (fun l => ∀ a ∈ l, ActOk a) := (opens_slice Try.underlying22 (by kernel_rfl) (by decide) opens_act).weak fun _ h => h.1
theorem act_arg {w : World} {ok : Nat → Prop} {a : SAct} {cs : Array Value} (h : tAct.K w ok a cs.toList) : ∃ P np cp, cs = #[.int .i64 a.kind, .int .i64 a.n, .int .i64 a.most, .slice P np cp, .string a.fr, .string a.to] ∧ Sl tPair w ok (.slice P np cp) a.l := by
  obtain ⟨P, np, cp, e, h1⟩ := act_form h
  exact ⟨P, np, cp, by rw [← Array.toArray_toList (xs := cs), e], h1⟩
end Go.Proofs.Ytnleldogmogkgaa
