import Derived.Test.YtlbcckdbpgofmaaW19
/-! The plain law of Own. -/
namespace Go.Proofs.Ytlbcckdbpgofmaa
open Go.RowKit Go.Op

/-- One list lies in another, in order. -/
inductive Emb {α : Type} (q : α → α → Bool) : List α → List α → Prop
  | nil (l : List α) : Emb q [] l
  | hit {a x : α} {k l : List α} : q a x = true → Emb q k l → Emb q (a :: k) (x :: l)
  | miss {k l : List α} {x : α} : Emb q k l → Emb q k (x :: l)
theorem Emb.tail {α : Type} {q : α → α → Bool} {k l : List α} (h : Emb q k l) : Emb q (k.drop 1) l := by
  induction h with
  | nil l => exact .nil _
  | hit _ h _ => exact .miss h
  | miss _ ih => exact .miss ih
theorem Emb.step {α : Type} {q : α → α → Bool} {a x : α} {k l : List α} (h : Emb q (a :: k) (x :: l)) : Emb q (if q a x then k else a :: k) l := by
  cases h with
  | hit hq h => rw [if_pos hq]; exact h
  | miss h =>
    by_cases hq : q a x = true
    · rw [if_pos hq]; exact h.tail
    · rw [if_neg hq]; exact h
theorem Emb.end_ {α : Type} {q : α → α → Bool} {k : List α} (h : Emb q k []) : k = [] := by
  cases h; rfl
theorem emb_keep : ∀ (l : List Rd) (S : List (Bool × ByteArray)), Emb sameRd (keep S l) l
  | [], _ => .nil _
  | x :: l, S => by
    rw [keep]
    have e : sameRd x x = true := by
      have := sameRds_refl [x]
      simpa [sameRds, alike] using this
    split
    · exact .hit e (emb_keep l _)
    · exact .miss (emb_keep l _)
theorem emb_drop {q : Rd → Rd → Bool} {K rs : List Rd} {k j : Nat} {x y : Rd} (h : Emb q (K.drop k) (rs.drop j)) (hx : rs[j]? = some x) (hy : K[k]? = some y) : Emb q (K.drop (if q y x then k + 1 else k)) (rs.drop (j + 1)) := by
  obtain ⟨hj, e⟩ := List.getElem?_eq_some_iff.1 hx
  obtain ⟨hk, e'⟩ := List.getElem?_eq_some_iff.1 hy
  rw [List.drop_eq_getElem_cons hj, List.drop_eq_getElem_cons hk, e, e'] at h
  have := h.step
  by_cases hq : q y x = true
  · rw [if_pos hq] at this ⊢; exact this
  · rw [if_neg hq] at this ⊢; rw [List.drop_eq_getElem_cons hk, e']; exact this
theorem emb_over {q : Rd → Rd → Bool} {K rs : List Rd} {k j : Nat} (h : K.length ≤ k) : Emb q (K.drop k) (rs.drop j) := by
  rw [List.drop_of_length_le h]; exact .nil _

/-- A part of what was kept is kept again. -/
theorem keep_mono : ∀ (l : List Rd) (S T : List (Bool × ByteArray)), (∀ k, seenIn T false k = true → seenIn S false k = true) → keep T (keep S l) = keep S l
  | [], S, T, _ => rfl
  | x :: l, S, T, h => by
    rw [keep]
    cases hs : x.scan
    · cases hq : seenIn S false x.key
      · have hT : seenIn T false x.key = false := by
          cases hT : seenIn T false x.key with
          | false => rfl
          | true => rw [h _ hT] at hq; cases hq
        simp only [Bool.false_or, Bool.not_false, if_true, List.cons_append, List.nil_append, keep, hs, hT]
        rw [keep_mono l _ _ (fun k hk => by
          simp only [seenIn, List.any_cons, Bool.or_eq_true] at hk ⊢
          rcases hk with hk | hk
          · exact .inl hk
          · exact .inr (h k hk))]
      · simp only [Bool.false_or, Bool.not_true, Bool.false_eq_true, if_false, List.nil_append]
        exact keep_mono l _ _ (fun k hk => by
          have := h k hk
          simp only [seenIn, List.any_cons, Bool.or_eq_true] at this ⊢
          exact .inr this)
    · simp only [Bool.true_or, if_true, List.cons_append, List.nil_append, keep, hs]
      rw [keep_mono l _ _ (fun k hk => by
        simp only [seenIn, List.any_cons, Bool.or_eq_true] at hk ⊢
        rcases hk with hk | hk
        · exact .inl hk
        · exact .inr (h k hk))]
theorem keep_keep (l : List Rd) : keep [] (keep [] l) = keep [] l := keep_mono l [] [] fun _ h => h

/-- The scans all stay. -/
theorem keep_scans : ∀ (l : List Rd) (S : List (Bool × ByteArray)), (keep S l).countP (·.scan) = l.countP (·.scan)
  | [], _ => rfl
  | x :: l, S => by
    rw [keep, List.countP_append, keep_scans l, List.countP_cons]
    cases hs : x.scan
    · by_cases hq : (!seenIn S false x.key) = true
      · rw [Bool.false_or, if_pos hq]; simp [hs]
      · rw [Bool.false_or, if_neg hq]; simp
    · simp [hs, Nat.add_comm]

/-- What asks the same is touched alike. -/
theorem any_keep (f : Rd → Bool) (hf : ∀ x y : Rd, x.scan = false → y.scan = false → x.key.toList = y.key.toList → f x = f y) :
    ∀ (l : List Rd) (S : List (Bool × ByteArray)), (∀ x : Rd, x.scan = false → seenIn S false x.key = true → f x = true → ∃ B : Bool, B = true) → ∀ B : Bool, (∀ x : Rd, x.scan = false → seenIn S false x.key = true → f x = true → B = true) → (B || (keep S l).any f) = (B || l.any f)
  | [], _, _, _, _ => rfl
  | x :: l, S, h0, B, hB => by
    rw [keep, List.any_append, List.any_cons]
    have ih := any_keep f hf l ((x.scan, x.key) :: S) (fun _ _ _ _ => ⟨true, rfl⟩) (B || f x) (fun y hy hs hfy => by
      simp only [seenIn, List.any_cons, Bool.or_eq_true, Bool.and_eq_true, beq_iff_eq] at hs ⊢
      rcases hs with ⟨h1, h2⟩ | hs
      · right; rw [← hfy]; exact hf x y h1 hy h2
      · left; exact hB y hy hs hfy)
    cases hs : x.scan
    · cases hq : seenIn S false x.key
      · rw [hs] at ih
        simp only [Bool.false_or, Bool.not_false, if_true, List.any_cons, List.any_nil, Bool.or_false]
        rw [← Bool.or_assoc, ← Bool.or_assoc]; exact ih
      · rw [hs] at ih
        simp only [Bool.false_or, Bool.not_true, Bool.false_eq_true, if_false, List.any_nil]
        have e : (B || f x) = B := by
          cases hfx : f x
          · simp
          · rw [hB x hs hq hfx]; rfl
        rw [e] at ih
        rw [← Bool.or_assoc, e]; exact ih
    · rw [hs] at ih
      simp only [Bool.true_or, if_true, List.any_cons, List.any_nil, Bool.or_false]
      rw [← Bool.or_assoc, ← Bool.or_assoc]; exact ih
theorem hit_key {x y : Rd} (h1 : x.scan = false) (h2 : y.scan = false) (h : x.key.toList = y.key.toList) (p : Pair) : hit x p = hit y p := by
  simp [hit, h1, h2, h]
theorem stale_keep (rs : List Rd) (l : List Rec) : stale (keep [] rs) l = stale rs l := by
  unfold stale
  congr 1
  funext o
  have := any_keep (fun x => touches o.writes x) (fun x y h1 h2 h => by
    show o.writes.any (hit x) = o.writes.any (hit y)
    congr 1; funext p; exact hit_key h1 h2 h p) rs [] (fun _ _ _ _ => ⟨true, rfl⟩) false (fun x _ h _ => by simp [seenIn] at h)
  simpa using this
end Go.Proofs.Ytlbcckdbpgofmaa
