import Derived.Test.YtlbcckdbpgofmaaOpenW
import Derived.Test.YtlbcckdbpgofmaaW10
/-! The row's readings of pairs, reads and records. -/
namespace Go.Proofs.Ytlbcckdbpgofmaa
theorem Opens.weak {α : Type} {P : Program} {T : TypeId} {t : Ty α} {wf wf' : α → Prop} (h : Opens P T t wf) (hm : ∀ x, wf x → wf' x) : Opens P T t wf' := fun H enc w spare held fuel cs x hx hf => by
  obtain ⟨d, hk, hw⟩ := h H enc w spare held fuel cs x hx hf
  exact ⟨d, hk, hm d hw⟩
theorem opens_pair : Opens Try.prog 37 tPair (fun v => v.key.size ≤ 140737488351232 ∧ v.val.size ≤ 140737488351232) := by
  intro H enc w spare held fuel cs x hx hfit
  have h : Opens Try.prog 37 (Ty.str.pair (Ty.str.pair Ty.bool)) _ := opens_struct Try.underlying37 (by kernel_rfl)
    (opensFs_cons rfl (by kernel_rfl) rfl (opens_str Try.underlying9) (opensFs_cons rfl (by kernel_rfl) rfl (opens_str Try.underlying9) (opensFs_one rfl (by kernel_rfl) (opens_bool Try.underlying4))))
  obtain ⟨⟨a, b, c⟩, ⟨_, _, rfl, h1, _, _, rfl, h2, h3⟩, w1, w2, _⟩ := h _ _ _ _ _ _ _ _ hx hfit
  refine ⟨⟨a, b, c⟩, ?_, w1, w2⟩
  rw [show _ = _ from h1, show _ = _ from h2, show _ = _ from h3]
  rfl
theorem bytes37 : Try.prog.bytesOf 37 = 40 := by kernel_rfl
theorem bytes41 : Try.prog.bytesOf 41 = 64 := by kernel_rfl
theorem bytes25 : Try.prog.bytesOf 25 = 72 := by kernel_rfl
theorem opens_pairs : Opens Try.prog 23 tPair.slice (fun l => Short l ∧ l.length ≤ 140737488351232) := (opens_slice Try.underlying23 (by kernel_rfl) (by decide) opens_pair).weak fun l h => ⟨h.1, by
  have := h.2; rw [bytes37] at this; have e : reachBytes = 140737488351232 := rfl; omega⟩
theorem opens_read : Opens Try.prog 41 tRead (fun x => x.key.size ≤ 140737488351232 ∧ x.to.size ≤ 140737488351232 ∧ Short x.pairs ∧ x.pairs.length ≤ 140737488351232) :=
  (opens_iso (g := fun y => (⟨y.1, y.2.1, y.2.2.1, y.2.2.2⟩ : Rd)) (fun _ => rfl) (opens_struct Try.underlying41 (by kernel_rfl)
    (opensFs_cons rfl (by kernel_rfl) rfl (opens_bool Try.underlying4) (opensFs_cons rfl (by kernel_rfl) rfl (opens_str Try.underlying9) (opensFs_cons rfl (by kernel_rfl) rfl (opens_str Try.underlying9) (opensFs_one rfl (by kernel_rfl) opens_pairs)))))).weak fun x h => ⟨h.2.1, h.2.2.1, h.2.2.2.1, h.2.2.2.2⟩
theorem opens_reads : Opens Try.prog 22 tRead.slice (fun l => ShortR l ∧ l.length ≤ 140737488351232) := (opens_slice Try.underlying22 (by kernel_rfl) (by decide) opens_read).weak fun l h => ⟨h.1, by
  have := h.2; rw [bytes41] at this; have e : reachBytes = 140737488351232 := rfl; omega⟩
theorem opens_rec : Opens Try.prog 25 tRec RecOk :=
  (opens_iso (g := fun y => (⟨y.1, y.2.1, y.2.2.1, y.2.2.2.1, y.2.2.2.2⟩ : Rec)) (fun _ => rfl) (opens_struct Try.underlying25 (by kernel_rfl)
    (opensFs_cons rfl (by kernel_rfl) rfl (opens_int Try.underlying3) (opensFs_cons rfl (by kernel_rfl) rfl (opens_int Try.underlying3) (opensFs_cons rfl (by kernel_rfl) rfl (opens_bool Try.underlying4) (opensFs_cons rfl (by kernel_rfl) rfl opens_reads (opensFs_one rfl (by kernel_rfl) opens_pairs))))))).weak fun x h =>
      ⟨h.2.2.2.2.1, h.2.2.2.1.1, h.2.2.2.2.2, h.2.2.2.1.2⟩
theorem opens_recs : Opens Try.prog 26 tRec.slice (fun l => (∀ x ∈ l, RecOk x) ∧ l.length ≤ 1954687338211) := (opens_slice Try.underlying26 (by kernel_rfl) (by decide) opens_rec).weak fun l h => ⟨h.1, by
  have := h.2; rw [bytes25] at this; have e : reachBytes = 140737488351232 := rfl; omega⟩
/-- A record by value, opened. -/
theorem rec_arg {w : World} {ok : Nat → Prop} {x : Rec} {cs : Array Value} (h : tRec.K w ok x cs.toList) :
    ∃ R nr cr W nw cw, cs = #[.int .i64 x.sess, .int .i64 x.snap, .bool x.strict, .slice R nr cr, .slice W nw cw] ∧ Sl tRead w ok (.slice R nr cr) x.reads ∧ Sl tPair w ok (.slice W nw cw) x.writes := by
  obtain ⟨R, nr, cr, W, nw, cw, e, h1, h2⟩ := rec_form h
  exact ⟨R, nr, cr, W, nw, cw, by rw [← Array.toArray_toList (xs := cs), e], h1, h2⟩
end Go.Proofs.Ytlbcckdbpgofmaa
