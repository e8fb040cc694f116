import Derived.Test.YtkfndmbnfhhbiaaPure
/-! What is laid over others. -/
namespace Go.Proofs.Ytkfndmbnfhhbiaa
open Go.Op (bytesLess)

theorem hasK_false {l : List Pair} {k : ByteArray} : hasK l k = false ↔ ∀ p ∈ l, p.key ≠ k := by
  rw [hasK, List.any_eq_false]
  exact ⟨fun h p hp => by have := h p hp; rw [beq_key] at this; simpa using this, fun h p hp => by rw [beq_key]; simpa using h p hp⟩
theorem hasK_cons (q : Pair) (w : List Pair) (k : ByteArray) : hasK (q :: w) k = (decide (q.key = k) || hasK w k) := by
  rw [hasK, List.any_cons, beq_key]; rfl
theorem mem_merge {l w : List Pair} (hl : Rising l) (hw : Rising w) (x : Pair) : x ∈ merge l w ↔ x ∈ w ∨ (x ∈ l ∧ hasK w x.key = false) := by
  fun_induction merge l w with
  | case1 w => simp
  | case2 p l => simp [hasK]
  | case3 p l q w h ih =>
    have hl' := List.pairwise_cons.1 hl
    have hw' := List.pairwise_cons.1 hw
    have hp : hasK (q :: w) p.key = false := by
      rw [hasK_false]
      intro r hr
      rcases List.mem_cons.1 hr with rfl | hr
      · exact (klt_ne h).symm
      · exact (klt_ne (klt_trans h (hw'.1 r hr))).symm
    rw [List.mem_cons, ih hl'.2 hw, List.mem_cons]
    constructor
    · rintro (rfl | h1 | ⟨h1, h2⟩)
      · exact .inr ⟨by simp, hp⟩
      · exact .inl h1
      · exact .inr ⟨List.mem_cons_of_mem _ h1, h2⟩
    · rintro (h1 | ⟨h1, h2⟩)
      · exact .inr (.inl h1)
      · rcases List.mem_cons.1 h1 with rfl | h1
        · exact .inl rfl
        · exact .inr (.inr ⟨h1, h2⟩)
  | case4 p l q w h k ih =>
    have hl' := List.pairwise_cons.1 hl
    have hw' := List.pairwise_cons.1 hw
    have hpq : p.key = q.key := by rw [beq_key] at k; simpa using k
    have hx : x ∈ l → hasK (q :: w) x.key = hasK w x.key := fun hx => by
      rw [hasK_cons, decide_eq_false (by rw [← hpq]; exact klt_ne (hl'.1 x hx)), Bool.false_or]
    rw [List.mem_cons, ih hl'.2 hw'.2, List.mem_cons]
    constructor
    · rintro (rfl | h1 | ⟨h1, h2⟩)
      · exact .inl (.inl rfl)
      · exact .inl (.inr h1)
      · exact .inr ⟨List.mem_cons_of_mem _ h1, by rw [hx h1]; exact h2⟩
    · rintro ((rfl | h1) | ⟨h1, h2⟩)
      · exact .inl rfl
      · exact .inr (.inl h1)
      · rcases List.mem_cons.1 h1 with rfl | h1
        · rw [hasK_cons, decide_eq_true hpq.symm] at h2; simp at h2
        · exact .inr (.inr ⟨h1, by rw [← hx h1]; exact h2⟩)
  | case5 p l q w h k ih =>
    have hl' := List.pairwise_cons.1 hl
    have hw' := List.pairwise_cons.1 hw
    have hqp : klt q.key p.key = true := by
      rw [beq_key] at k
      rcases klt_cases p.key q.key with ⟨e, _⟩ | ⟨e, _⟩ | ⟨_, e, _⟩
      · rw [e] at h; simp at h
      · rw [decide_eq_true e] at k; simp at k
      · exact e
    have hx : x ∈ p :: l → hasK (q :: w) x.key = hasK w x.key := fun hx => by
      have : klt q.key x.key = true := by
        rcases List.mem_cons.1 hx with rfl | hx
        · exact hqp
        · exact klt_trans hqp (hl'.1 x hx)
      rw [hasK_cons, decide_eq_false (klt_ne this), Bool.false_or]
    rw [List.mem_cons, ih hl hw'.2, List.mem_cons (a := x) (b := q)]
    constructor
    · rintro (rfl | h1 | ⟨h1, h2⟩)
      · exact .inl (.inl rfl)
      · exact .inl (.inr h1)
      · exact .inr ⟨h1, by rw [hx h1]; exact h2⟩
    · rintro ((rfl | h1) | ⟨h1, h2⟩)
      · exact .inl rfl
      · exact .inr (.inl h1)
      · exact .inr (.inr ⟨h1, by rw [← hx h1]; exact h2⟩)
theorem merge_rising {l w : List Pair} (hl : Rising l) (hw : Rising w) : Rising (merge l w) := by
  fun_induction merge l w with
  | case1 w => exact hw
  | case2 p l => exact hl
  | case3 p l q w h ih =>
    have hl' := List.pairwise_cons.1 hl
    have hw' := List.pairwise_cons.1 hw
    refine List.pairwise_cons.2 ⟨fun x hx => ?_, ih hl'.2 hw⟩
    rcases (mem_merge hl'.2 hw x).1 hx with h1 | ⟨h1, _⟩
    · rcases List.mem_cons.1 h1 with rfl | h1
      · exact h
      · exact klt_trans h (hw'.1 x h1)
    · exact hl'.1 x h1
  | case4 p l q w h k ih =>
    have hl' := List.pairwise_cons.1 hl
    have hw' := List.pairwise_cons.1 hw
    have hpq : p.key = q.key := by rw [beq_key] at k; simpa using k
    refine List.pairwise_cons.2 ⟨fun x hx => ?_, ih hl'.2 hw'.2⟩
    rcases (mem_merge hl'.2 hw'.2 x).1 hx with h1 | ⟨h1, _⟩
    · exact hw'.1 x h1
    · rw [← hpq]; exact hl'.1 x h1
  | case5 p l q w h k ih =>
    have hl' := List.pairwise_cons.1 hl
    have hw' := List.pairwise_cons.1 hw
    have hqp : klt q.key p.key = true := by
      rw [beq_key] at k
      rcases klt_cases p.key q.key with ⟨e, _⟩ | ⟨e, _⟩ | ⟨_, e, _⟩
      · rw [e] at h; simp at h
      · rw [decide_eq_true e] at k; simp at k
      · exact e
    refine List.pairwise_cons.2 ⟨fun x hx => ?_, ih hl hw'.2⟩
    rcases (mem_merge hl hw'.2 x).1 hx with h1 | ⟨h1, _⟩
    · exact hw'.1 x h1
    · rcases List.mem_cons.1 h1 with rfl | h1
      · exact hqp
      · exact klt_trans hqp (hl'.1 x h1)
theorem overlay_rising {l w : List Pair} (hl : Rising l) (hw : Rising w) : Rising (overlay l w) := (merge_rising hl hw).sublist List.filter_sublist
theorem overlay_length (l w : List Pair) : (overlay l w).length ≤ l.length + w.length := Nat.le_trans (List.length_filter_le _ _) (merge_length l w)

/-- Is a pair there, as another one says? -/
def foundIn (out : List Pair) (k : ByteArray) (v : ByteArray) : Bool := out.any fun q => (q.key.toList == k.toList) && (q.val.toList == v.toList) && !q.dead
theorem found_eq {l w : List Pair} (hl : Rising l) (hw : Rising w) {p : Pair} (hp : p ∈ l ++ w) : foundIn (overlay l w) p.key ((findK w p.key).getD p).val = !((findK w p.key).getD p).dead := by
  obtain ⟨r, hr⟩ : ∃ r, (findK w p.key).getD p = r := ⟨_, rfl⟩
  rw [hr]
  have hrm : r ∈ merge l w ∧ r.key = p.key := by
    rw [mem_merge hl hw]
    cases hf : findK w p.key with
    | some q =>
      rw [hf] at hr
      obtain rfl : q = r := hr
      obtain ⟨h1, h2⟩ := findK_some hf
      exact ⟨.inl h1, h2⟩
    | none =>
      rw [hf] at hr
      obtain rfl : p = r := hr
      rw [findK_none] at hf
      rcases List.mem_append.1 hp with h | h
      · exact ⟨.inr ⟨h, hasK_false.2 hf⟩, rfl⟩
      · exact absurd rfl (hf p h)
  unfold foundIn
  cases hd : r.dead
  · refine List.any_eq_true.2 ⟨r, List.mem_filter.2 ⟨hrm.1, by simp [hd]⟩, ?_⟩
    simp [hrm.2, hd]
  · show _ = false
    rw [List.any_eq_false]
    intro q hq hc
    obtain ⟨h1, h2⟩ := List.mem_filter.1 hq
    simp only [Bool.and_eq_true] at hc
    have hk : q.key = r.key := by rw [hrm.2]; exact bytes_eq (by simpa using hc.1.1)
    have e1 := findK_mem (merge_rising hl hw) h1
    have e2 := findK_mem (merge_rising hl hw) hrm.1
    rw [hk, e2] at e1
    injection e1 with e1
    rw [← e1, hd] at h2; simp at h2
end Go.Proofs.Ytkfndmbnfhhbiaa
