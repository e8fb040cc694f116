import Derived.Test.YtidfogcilegloaaPure
namespace Go.Proofs.Ytidfogcilegloaa

theorem goodFrom_drop : ∀ {l : List Ver} {a b : Int} {k : Nat}, goodFrom a l = true → b ≤ a → goodFrom b (l.drop k) = true
  | l, _, _, 0, h, hb => goodFrom_mono hb (by simpa using h)
  | [], _, _, _ + 1, _, _ => rfl
  | x :: l, a, b, k + 1, h, hb => by
    simp only [goodFrom, Bool.and_eq_true, decide_eq_true_eq] at h
    exact goodFrom_drop (l := l) (a := x.at_) h.2 (by omega)
theorem goodFrom_take : ∀ {l : List Ver} {a : Int} {k : Nat}, goodFrom a l = true → goodFrom a (l.take k) = true
  | _, _, 0, _ => rfl
  | [], _, _ + 1, _ => rfl
  | x :: l, a, k + 1, h => by
    simp only [goodFrom, Bool.and_eq_true, decide_eq_true_eq] at h
    simp only [List.take_succ_cons, goodFrom, Bool.and_eq_true, decide_eq_true_eq]
    exact ⟨h.1, goodFrom_take h.2⟩
theorem good_trim (l : List Ver) (n : Int) : good (trim l n) = true := by
  unfold trim
  split
  · next h => exact goodFrom_drop h (Int.le_refl _)
  · rfl
theorem good_cut (l : List Ver) (n : Int) : good (cut l n) = true := by
  unfold cut
  split
  · next h => exact goodFrom_take h
  · rfl
theorem trimAt_le' (l : List Ver) (n : Int) : trimAt l n ≤ upTo l n := by unfold trimAt; split <;> omega
theorem upTo_mono_at : ∀ (l : List Ver) {n m : Int}, n ≤ m → upTo l n ≤ upTo l m
  | [], _, _, _ => Nat.le_refl _
  | x :: l, n, m, h => by
    have ih := upTo_mono_at l h
    unfold upTo at *
    rw [List.takeWhile_cons, List.takeWhile_cons]
    by_cases hn : x.at_ ≤ n
    · have hm : x.at_ ≤ m := by omega
      simp only [hn, hm, decide_true, if_true, List.length_cons]; omega
    · simp only [hn, decide_false, Bool.false_eq_true, if_false, List.length_nil, Nat.zero_le]
/-- What is seen from a place on, cut at its head by no more than that place sees. -/
theorem upTo_drop {l : List Ver} {m : Int} {k : Nat} (h : k ≤ upTo l m) : upTo (l.drop k) m = upTo l m - k := by
  induction l generalizing k with
  | nil => simp [upTo]
  | cons x l ih =>
    cases k with
    | zero => simp
    | succ k =>
      have hx : x.at_ ≤ m := by
        unfold upTo at h
        rw [List.takeWhile_cons] at h
        by_cases hx : x.at_ ≤ m
        · exact hx
        · simp [hx] at h
      have hu : upTo (x :: l) m = upTo l m + 1 := by
        unfold upTo; rw [List.takeWhile_cons]; simp [hx]
      rw [List.drop_succ_cons, ih (by omega), hu]; omega
theorem trim_len_le (l : List Ver) (n : Int) : (trim l n).length ≤ l.length := by
  unfold trim; split <;> simp
/-- Trimmed, the same is seen of a snapshot and of all behind it. -/
theorem get_trim {l : List Ver} {n m : Int} (hg : good l = true) (h : n ≤ m) : get (trim l n) m = get l m := by
  have hu := upTo_mono_at l h
  have ht := trimAt_le' l n
  have hl := upTo_le l m
  have e1 : trim l n = l.drop (trimAt l n) := by rw [trim, if_pos hg]
  rw [get, get, if_pos (good_trim l n), if_pos hg, seen_eq, seen_eq, e1, upTo_drop (by omega)]
  by_cases h0 : upTo l m = 0
  · rw [if_pos h0, if_pos (by omega)]
  · rw [if_neg h0]
    by_cases h1 : upTo l m - trimAt l n = 0
    · -- all that is seen has gone: what was seen was dead
      rw [if_pos h1]
      have h2 : trimAt l n = upTo l m := by omega
      have h3 : upTo l n = upTo l m := by omega
      have h4 : ¬ (live (seen l n)).isSome = true := fun h => by
        unfold trimAt at h2; rw [if_pos h] at h2; omega
      rw [seen_eq, if_neg (by omega), h3] at h4
      cases hx : live l[upTo l m - 1]? with
      | none => rfl
      | some v => rw [hx] at h4; simp at h4
    · rw [if_neg h1, List.getElem?_drop]
      congr 2
      omega
theorem since_trim {l : List Ver} {n m : Int} (hg : good l = true) (h : n ≤ m) : since (trim l n) m = since l m := by
  have hu := upTo_mono_at l h
  have ht := trimAt_le' l n
  have hl := upTo_le l m
  have e1 : trim l n = l.drop (trimAt l n) := by rw [trim, if_pos hg]
  rw [since, since, if_pos (good_trim l n), if_pos hg, e1, upTo_drop (by omega), List.length_drop]
  omega
theorem trim_trim {l : List Ver} {n : Int} (hg : good l = true) : trim (trim l n) n = trim l n := by
  have hu := upTo_le l n
  have ht := trimAt_le' l n
  have e1 : trim l n = l.drop (trimAt l n) := by rw [trim, if_pos hg]
  have hgt := get_trim hg (Int.le_refl n)
  have e2 : trimAt (trim l n) n = 0 := by
    have h1 : upTo (trim l n) n = upTo l n - trimAt l n := by rw [e1, upTo_drop ht]
    rw [get, get, if_pos (good_trim l n), if_pos hg] at hgt
    unfold trimAt
    rw [hgt, h1]
    by_cases h : (live (seen l n)).isSome = true
    · rw [if_pos h]; unfold trimAt; rw [if_pos h]; omega
    · rw [if_neg h]; unfold trimAt; rw [if_neg h]; omega
  conv => lhs; rw [trim, if_pos (good_trim l n), e2]
  rfl
theorem cut_len {l : List Ver} {n : Int} (hg : good l = true) : (cut l n).length = upTo l n := by
  have := upTo_le l n
  rw [cut, if_pos hg, List.length_take]; omega
theorem upTo_take : ∀ {l : List Ver} {m : Int} {k : Nat}, upTo l m ≤ k → upTo (l.take k) m = upTo l m
  | [], _, _, _ => by simp [upTo]
  | x :: l, m, 0, h => by
    have : upTo (x :: l) m = 0 := by omega
    rw [this]; rfl
  | x :: l, m, k + 1, h => by
    unfold upTo at *
    rw [List.take_succ_cons, List.takeWhile_cons, List.takeWhile_cons] at *
    by_cases hx : x.at_ ≤ m
    · simp only [hx, decide_true, if_true, List.length_cons] at h ⊢
      have := upTo_take (l := l) (m := m) (k := k) (by unfold upTo; omega)
      unfold upTo at this
      omega
    · simp [hx]
theorem get_cut {l : List Ver} {n m : Int} (hg : good l = true) (h : m ≤ n) : get (cut l n) m = get l m := by
  have hu := upTo_mono_at l h
  have e1 : cut l n = l.take (upTo l n) := by rw [cut, if_pos hg]
  rw [get, get, if_pos (good_cut l n), if_pos hg, seen_eq, seen_eq, e1, upTo_take hu]
  by_cases h0 : upTo l m = 0
  · rw [if_pos h0, if_pos h0]
  · rw [if_neg h0, if_neg h0, List.getElem?_take, if_pos (by omega)]
theorem since_cut {l : List Ver} {n : Int} (hg : good l = true) : since (cut l n) n = 0 := by
  have hu := upTo_le l n
  have e1 : cut l n = l.take (upTo l n) := by rw [cut, if_pos hg]
  rw [since, if_pos (good_cut l n), e1, upTo_take (Nat.le_refl _), List.length_take]
  omega
theorem last_cut {l : List Ver} {n : Int} (hg : good l = true) (h : (cut l n).length ≠ 0) : lastOf (cut l n) ≤ n := by
  have hu := upTo_le l n
  have hc := cut_len (n := n) hg
  rw [lastOf, if_pos (good_cut l n), List.getLast?_eq_getElem?, hc]
  have hlt : upTo l n - 1 < l.length := by omega
  have e1 : cut l n = l.take (upTo l n) := by rw [cut, if_pos hg]
  rw [e1, List.getElem?_take, if_pos (by omega), List.getElem?_eq_getElem hlt]
  have := (upTo_spec (n := n) hg (List.getElem?_eq_getElem hlt)).2 (by omega)
  simpa using this
theorem cut_since {l : List Ver} {n : Int} (hg : good l = true) : (cut l n).length + since l n = l.length := by
  have hu := upTo_le l n
  rw [cut_len hg, since, if_pos hg]; omega
end Go.Proofs.Ytidfogcilegloaa
