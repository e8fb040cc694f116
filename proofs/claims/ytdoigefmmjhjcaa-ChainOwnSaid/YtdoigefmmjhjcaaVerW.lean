import Derived.Test.YtdoigefmmjhjcaaOpenW
import Derived.Test.YtdoigefmmjhjcaaW1
namespace Go.Proofs.Ytdoigefmmjhjcaa
theorem opens_ver : Opens Try.prog 27 tVer (fun v => v.val.size ≤ reachBytes) := by
  intro H enc w spare held fuel cs x hx hfit
  have h : Opens Try.prog 27 ((Ty.int .i64).pair (Ty.str.pair Ty.bool)) _ := opens_struct Try.underlying27 (by kernel_rfl)
    (opensFs_cons rfl (by kernel_rfl) rfl (opens_int Try.underlying3) (opensFs_cons rfl (by kernel_rfl) rfl (opens_str Try.underlying9) (opensFs_one rfl (by kernel_rfl) (opens_bool Try.underlying4))))
  obtain ⟨⟨a, b, c⟩, ⟨_, _, rfl, h1, _, _, rfl, h2, h3⟩, _, hw, _⟩ := h _ _ _ _ _ _ _ _ hx hfit
  refine ⟨⟨a, b, c⟩, ?_, hw⟩
  rw [show _ = _ from h1, show _ = _ from h2, show _ = _ from h3]
  rfl
theorem opens_vers : Opens Try.prog 23 (Ty.slice tVer) (fun l => (∀ x ∈ l, x.val.size ≤ reachBytes) ∧ l.length * Try.prog.bytesOf 27 ≤ reachBytes) := opens_slice Try.underlying23 (by kernel_rfl) (by decide) opens_ver
end Go.Proofs.Ytdoigefmmjhjcaa
