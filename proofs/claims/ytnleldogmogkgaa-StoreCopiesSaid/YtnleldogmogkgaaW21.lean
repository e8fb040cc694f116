import Derived.Test.YtnleldogmogkgaaW20
/-! Entries trimmed one by one. -/
namespace Go.Proofs.Ytnleldogmogkgaa
open Go.RowKit Go.Op

theorem delV_keys (V : List (ByteArray × Value)) (k : ByteArray) : (delV V k).map (·.1) = (V.map (·.1)).filter fun a => decide (a ≠ k) := by
  unfold delV
  induction V with
  | nil => rfl
  | cons p V ih =>
    simp only [List.filter_cons, List.map_cons]
    by_cases h : p.1 = k
    · simp only [h, ne_eq, not_true_eq_false, decide_false, Bool.false_eq_true, if_false]; simpa using ih
    · simp only [ne_eq, h, not_false_eq_true, decide_true, if_true, List.map_cons]
      exact congrArg _ (by simpa using ih)
section
variable {w : World} {X : List Nat} {V : List (ByteArray × Value)} {T D : List Ent} {e : Ent}
theorem Ch.set1 (h : Ch w X V (T ++ e :: D)) (hn : (V.map (·.1)).Nodup) (hT : ∀ x ∈ T, x.key ≠ e.key) (hD : ∀ x ∈ D, x.key ≠ e.key) {A : Option Addr} {k c : Nat} {c' : List Ver} (hs : Sl tVer w (· ∉ X) (.slice A k c) c') :
    Ch w X (setV V e.key (.slice A k c)) (T ++ ⟨e.key, c'⟩ :: D) := by
  obtain ⟨A0, n0, c0, h0, -⟩ := h.chains e (by simp)
  refine ⟨?_, fun x hx => ?_⟩
  · rw [setV_keys, h0]
    simpa using h.keys
  · rcases List.mem_append.1 hx with hx | hx
    · obtain ⟨A1, n1, c1, h1, h2⟩ := h.chains x (List.mem_append_left _ hx)
      exact ⟨A1, n1, c1, by rw [look_setV hn, if_neg (hT x hx)]; exact h1, h2⟩
    · rcases List.mem_cons.1 hx with rfl | hx
      · exact ⟨A, k, c, by rw [look_setV hn, if_pos rfl], hs⟩
      · obtain ⟨A1, n1, c1, h1, h2⟩ := h.chains x (List.mem_append_right _ (List.mem_cons_of_mem _ hx))
        exact ⟨A1, n1, c1, by rw [look_setV hn, if_neg (hD x hx)]; exact h1, h2⟩
theorem filter_ne {l : List Ent} {k : ByteArray} (h : ∀ x ∈ l, x.key ≠ k) : (l.map (·.key)).filter (fun a => decide (a ≠ k)) = l.map (·.key) := by
  rw [List.filter_eq_self]
  intro a ha
  obtain ⟨x, hx, rfl⟩ := List.mem_map.1 ha
  simpa using h x hx
theorem Ch.del1 (h : Ch w X V (T ++ e :: D)) (hn : (V.map (·.1)).Nodup) (hT : ∀ x ∈ T, x.key ≠ e.key) (hD : ∀ x ∈ D, x.key ≠ e.key) : Ch w X (delV V e.key) (T ++ D) := by
  refine ⟨?_, fun x hx => ?_⟩
  · rw [delV_keys]
    have := h.keys.filter (fun a => decide (a ≠ e.key))
    rw [List.map_append, List.map_cons, List.filter_append, List.filter_cons_of_neg (by simp), filter_ne hT, filter_ne hD, ← List.map_append] at this
    exact this
  · have hne : x.key ≠ e.key := by
      rcases List.mem_append.1 hx with hx | hx
      · exact hT x hx
      · exact hD x hx
    obtain ⟨A1, n1, c1, h1, h2⟩ := h.chains x (by
      rcases List.mem_append.1 hx with hx | hx
      · exact List.mem_append_left _ hx
      · exact List.mem_append_right _ (List.mem_cons_of_mem _ hx))
    exact ⟨A1, n1, c1, by rw [look_delV hn, if_neg hne]; exact h1, h2⟩
end
theorem trims_take {E : List Ent} {j : Nat} {e : Ent} (n : Int) (he : E[j]? = some e) : (trim e.c n = [] → trims (E.take (j + 1)) n = trims (E.take j) n) ∧ (trim e.c n ≠ [] → trims (E.take (j + 1)) n = trims (E.take j) n ++ [⟨e.key, trim e.c n⟩]) := by
  unfold trims
  rw [List.take_add_one, he, List.map_append, List.filter_append]
  constructor
  · intro h; simp [full, trimE, h]
  · intro h; simp [full, trimE, h]
theorem keys_apart {E : List Ent} (hr : Rising E) {j : Nat} {e : Ent} (he : E[j]? = some e) (n : Int) : (∀ x ∈ trims (E.take j) n, x.key ≠ e.key) ∧ (∀ x ∈ E.drop (j + 1), x.key ≠ e.key) := by
  have hsp : E = E.take j ++ e :: E.drop (j + 1) := by rw [← drop_at he, List.take_append_drop]
  have hr' := hr
  rw [hsp] at hr'
  obtain ⟨h1, h2, h3⟩ := List.pairwise_append.1 hr'
  refine ⟨fun x hx => ?_, fun x hx => ?_⟩
  · obtain ⟨a, ha, rfl, -⟩ := trims_mem.1 hx
    exact klt_ne (h3 a ha e (by simp))
  · exact (klt_ne ((List.pairwise_cons.1 h2).1 x hx)).symm
theorem chainOf_trims {E : List Ent} (hr : Rising E) (n : Int) {e : Ent} (he : e ∈ E) : chainOf (trims E n) e.key = trim e.c n := by
  by_cases h : trim e.c n = []
  · rw [h]
    refine chainOf_none (findK_none.2 fun x hx hk => ?_)
    obtain ⟨a, ha, rfl, hne⟩ := trims_mem.1 hx
    have h1 := findK_mem hr ha
    have h2 := findK_mem hr he
    have hk' : a.key = e.key := hk
    rw [hk', h2] at h1
    injection h1 with h1
    subst h1
    exact hne h
  · exact chainOf_mem (e := ⟨e.key, trim e.c n⟩) (trims_rising hr n) (trims_mem.2 ⟨e, he, rfl, h⟩)
theorem keys_left {E : List Ent} (hr : Rising E) (n : Int) : (E.map (·.key)).filter (fun k => !(chainOf (trims E n) k).isEmpty) = (trims E n).map (·.key) := by
  rw [List.filter_map]
  have : E.filter ((fun k => !(chainOf (trims E n) k).isEmpty) ∘ fun x => x.key) = E.filter fun e => full (trimE n e) := by
    apply List.filter_congr
    intro e he
    show (!(chainOf (trims E n) e.key).isEmpty) = _
    rw [chainOf_trims hr n he]; rfl
  rw [this]
  unfold trims
  rw [List.filter_map, List.map_map]
  rfl
end Go.Proofs.Ytnleldogmogkgaa
