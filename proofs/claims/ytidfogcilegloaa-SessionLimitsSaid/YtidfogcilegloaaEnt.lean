import Derived.WalkKit
import Derived.Test.YtidfogcilegloaaPure
/-! Entries by keys, in order: plain law. -/
namespace Go.Proofs.Ytidfogcilegloaa
open Go.Op (bytesLess)

structure Ent where
  key : ByteArray
  c : List Ver

theorem bl_irrefl : ∀ x : List UInt8, bytesLess x x = false
  | [] => rfl
  | a :: x => by simp [bytesLess, bl_irrefl x]
theorem bl_trans : ∀ {x y z : List UInt8}, bytesLess x y = true → bytesLess y z = true → bytesLess x z = true
  | [], [], _, h, _ => by simp [bytesLess] at h
  | _ :: _, [], _, h, _ => by simp [bytesLess] at h
  | [], _ :: _, [], _, h => by simp [bytesLess] at h
  | [], _ :: _, _ :: _, _, _ => rfl
  | _ :: _, _ :: _, [], _, h => by simp [bytesLess] at h
  | a :: x, b :: y, c :: z, h, k => by
    simp only [bytesLess, Bool.or_eq_true, Bool.and_eq_true, decide_eq_true_eq, beq_iff_eq] at h k ⊢
    rcases h with h | ⟨rfl, h⟩
    · rcases k with k | ⟨rfl, k⟩
      · exact .inl (UInt8.lt_trans h k)
      · exact .inl h
    · rcases k with k | ⟨rfl, k⟩
      · exact .inl k
      · exact .inr ⟨rfl, bl_trans h k⟩
theorem bl_total : ∀ {x y : List UInt8}, bytesLess x y = false → bytesLess y x = false → x = y
  | [], [], _, _ => rfl
  | _ :: _, [], _, h => by simp [bytesLess] at h
  | [], _ :: _, h, _ => by simp [bytesLess] at h
  | a :: x, b :: y, h, k => by
    simp only [bytesLess, Bool.or_eq_false_iff, Bool.and_eq_false_iff, decide_eq_false_iff_not] at h k
    have e : a = b := UInt8.le_antisymm (UInt8.not_lt.1 k.1) (UInt8.not_lt.1 h.1)
    subst e
    have h2 : bytesLess x y = false := by rcases h.2 with h | h; · simp at h
                                          · exact h
    have k2 : bytesLess y x = false := by rcases k.2 with h | h; · simp at h
                                          · exact h
    rw [bl_total h2 k2]
/-- Not below goes on upwards. -/
theorem bl_up {x y z : List UInt8} (h : bytesLess x y = false) (k : bytesLess z x = false) : bytesLess z y = false := by
  cases hz : bytesLess z y
  · rfl
  · cases hq : bytesLess y x
    · rw [bl_total h hq] at k; rw [hz] at k; cases k
    · have := bl_trans hz hq; rw [k] at this; cases this


def klt (a b : ByteArray) : Bool := bytesLess a.toList b.toList
theorem bytes_eq {a b : ByteArray} (h : a.toList = b.toList) : a = b := by
  rw [ByteArray.toList_eq, ByteArray.toList_eq] at h
  exact ByteArray.ext (Array.toList_inj.mp h)
theorem beq_key (a b : ByteArray) : (a.toList == b.toList) = decide (a = b) := by
  by_cases h : a = b
  · subst h; simp
  · rw [decide_eq_false h]
    cases hq : a.toList == b.toList with
    | false => rfl
    | true => exact absurd (bytes_eq (by simpa using hq)) h
theorem klt_irrefl (a : ByteArray) : klt a a = false := bl_irrefl _
theorem klt_trans {a b c : ByteArray} (h : klt a b = true) (k : klt b c = true) : klt a c = true := bl_trans h k
theorem klt_total {a b : ByteArray} (h : klt a b = false) (k : klt b a = false) : a = b := bytes_eq (bl_total h k)
theorem klt_asymm {a b : ByteArray} (h : klt a b = true) : klt b a = false := by
  cases k : klt b a with
  | false => rfl
  | true => have := klt_trans h k; rw [klt_irrefl] at this; cases this
theorem klt_ne {a b : ByteArray} (h : klt a b = true) : a ≠ b := by rintro rfl; rw [klt_irrefl] at h; cases h
theorem klt_cases (a b : ByteArray) : (klt a b = true ∧ klt b a = false ∧ a ≠ b) ∨ (a = b ∧ klt a b = false ∧ klt b a = false) ∨ (klt a b = false ∧ klt b a = true ∧ a ≠ b) := by
  cases h : klt a b with
  | true => exact .inl ⟨rfl, klt_asymm h, klt_ne h⟩
  | false =>
    cases k : klt b a with
    | true => exact .inr (.inr ⟨rfl, rfl, (klt_ne k).symm⟩)
    | false => exact .inr (.inl ⟨klt_total h k, rfl, rfl⟩)

theorem takeWhile_all {α : Type} (p : α → Bool) : ∀ (l : List α) x, x ∈ l.takeWhile p → p x = true
  | [], _, h => by cases h
  | a :: l, x, h => by
    rw [List.takeWhile_cons] at h
    cases ha : p a with
    | false => rw [ha] at h; simp at h
    | true =>
      rw [ha] at h
      rcases List.mem_cons.1 h with rfl | h
      · exact ha
      · exact takeWhile_all p l x h

/-- Keys rise. -/
def Rising (l : List Ent) : Prop := l.Pairwise fun a b => klt a.key b.key = true
def hasK (l : List Ent) (k : ByteArray) : Bool := l.any fun p => p.key.toList == k.toList
def findK (l : List Ent) (k : ByteArray) : Option Ent := l.find? fun p => p.key.toList == k.toList
/-- Where a key stands, or would. -/
def low (l : List Ent) (k : ByteArray) : Nat := (l.takeWhile fun p => klt p.key k).length
/-- A pair over, or in among, the others. -/
def putE (l : List Ent) (p : Ent) : List Ent := l.take (low l p.key) ++ p :: l.drop (low l p.key + if hasK l p.key then 1 else 0)

theorem Rising.nil : Rising [] := List.Pairwise.nil
theorem Rising.keys {l : List Ent} (h : Rising l) : (l.map (·.key)).Nodup := by
  rw [List.nodup_iff_pairwise_ne, List.pairwise_map]
  exact h.imp fun hab => klt_ne hab
theorem take_low (l : List Ent) (k : ByteArray) : l.take (low l k) = l.takeWhile fun p => klt p.key k := by
  unfold low; exact (List.prefix_iff_eq_take.1 (List.takeWhile_prefix _)).symm
theorem drop_low (l : List Ent) (k : ByteArray) : l.drop (low l k) = l.dropWhile fun p => klt p.key k := by
  have h := List.takeWhile_append_dropWhile (p := fun p : Ent => klt p.key k) (l := l)
  have h2 := List.take_append_drop (low l k) l
  rw [take_low] at h2
  exact List.append_cancel_left (h2.trans h.symm)
/-- A rising list parts at a key. -/
theorem parts {l : List Ent} (h : Rising l) (k : ByteArray) : ∃ A B, l = A ++ B ∧ A.length = low l k ∧ (∀ p ∈ A, klt p.key k = true) ∧
    ((hasK l k = false ∧ ∀ p ∈ B, klt k p.key = true) ∨ (hasK l k = true ∧ ∃ q C, B = q :: C ∧ q.key = k ∧ ∀ p ∈ C, klt k p.key = true)) := by
  refine ⟨l.take (low l k), l.drop (low l k), (List.take_append_drop _ _).symm, ?_, ?_, ?_⟩
  · rw [List.length_take, Nat.min_eq_left]; exact (List.takeWhile_prefix _).length_le
  · rw [take_low]; intro p hp; exact takeWhile_all (fun p : Ent => klt p.key k) l p hp
  · have hA : ∀ p ∈ l.take (low l k), klt p.key k = true := by rw [take_low]; intro p hp; exact takeWhile_all (fun p : Ent => klt p.key k) l p hp
    have hnA : (l.take (low l k)).any (fun p => p.key.toList == k.toList) = false := by
      rw [List.any_eq_false]
      intro p hp
      rw [beq_key]
      simpa using klt_ne (hA p hp)
    have hh : hasK l k = (l.drop (low l k)).any fun p => p.key.toList == k.toList := by
      unfold hasK
      conv => lhs; rw [← List.take_append_drop (low l k) l]
      rw [List.any_append, hnA, Bool.false_or]
    have hB : Rising (l.drop (low l k)) := h.sublist (List.drop_sublist _ _)
    cases hd : l.drop (low l k) with
    | nil => exact .inl ⟨by rw [hh, hd]; rfl, by simp⟩
    | cons q C =>
      rw [hd] at hB hh
      have hq : klt q.key k = false := by
        rw [drop_low] at hd
        have := List.head?_dropWhile_not (fun p : Ent => klt p.key k) l
        rw [hd] at this
        simpa using this
      have hC : ∀ p ∈ C, klt q.key p.key = true := fun p hp => (List.pairwise_cons.1 hB).1 p hp
      rcases klt_cases q.key k with ⟨h1, _⟩ | ⟨rfl, _⟩ | ⟨_, h1, hne⟩
      · rw [h1] at hq; cases hq
      · exact .inr ⟨by rw [hh]; simp, q, C, rfl, rfl, hC⟩
      · have hall : ∀ p ∈ q :: C, klt k p.key = true := by
          intro p hp
          rcases List.mem_cons.1 hp with rfl | hp
          · exact h1
          · exact klt_trans h1 (hC p hp)
        refine .inl ⟨?_, hall⟩
        rw [hh, List.any_eq_false]
        intro p hp
        rw [beq_key]
        simpa using (klt_ne (hall p hp)).symm
theorem putE_parts {l : List Ent} (h : Rising l) (p : Ent) : ∃ A C, putE l p = A ++ p :: C ∧ (∀ q ∈ A, klt q.key p.key = true) ∧ (∀ q ∈ C, klt p.key q.key = true) ∧ Rising A ∧ Rising C ∧ (∀ q, q ∈ l ↔ (q ∈ A ∨ q ∈ C) ∨ (q.key = p.key ∧ q ∈ l)) ∧
    A.length + C.length + (if hasK l p.key then 1 else 0) = l.length := by
  obtain ⟨A, B, rfl, hA, h1, h2⟩ := parts h p.key
  have hr := List.pairwise_append.1 h
  have e1 : (A ++ B).take (low (A ++ B) p.key) = A := by rw [← hA]; simp
  have e2 : ∀ j, (A ++ B).drop (low (A ++ B) p.key + j) = B.drop j := by intro j; rw [← hA, List.drop_append]; simp
  rcases h2 with ⟨h2, h3⟩ | ⟨h2, q, C, rfl, h3, h4⟩
  · refine ⟨A, B, by rw [putE, e1, h2, e2]; simp, h1, h3, hr.1, hr.2.1, fun q => ?_, by rw [h2]; simp⟩
    constructor
    · intro hq; exact .inl (List.mem_append.1 hq)
    · rintro (hq | hq)
      · exact List.mem_append.2 hq
      · exact hq.2
  · refine ⟨A, C, by rw [putE, e1, h2, e2]; simp, h1, h4, hr.1, (List.pairwise_cons.1 hr.2.1).2, fun x => ?_, by rw [h2]; simp; omega⟩
    constructor
    · intro hx
      rcases List.mem_append.1 hx with hx | hx
      · exact .inl (.inl hx)
      · rcases List.mem_cons.1 hx with rfl | hx
        · exact .inr ⟨h3, by simp⟩
        · exact .inl (.inr hx)
    · rintro ((hx | hx) | hx)
      · exact List.mem_append_left _ hx
      · exact List.mem_append_right _ (List.mem_cons_of_mem _ hx)
      · exact hx.2
theorem putE_rising {l : List Ent} (h : Rising l) (p : Ent) : Rising (putE l p) := by
  obtain ⟨A, C, e, h1, h2, h3, h4, _⟩ := putE_parts h p
  rw [e]
  refine List.pairwise_append.2 ⟨h3, List.pairwise_cons.2 ⟨h2, h4⟩, fun a ha b hb => ?_⟩
  rcases List.mem_cons.1 hb with rfl | hb
  · exact h1 a ha
  · exact klt_trans (h1 a ha) (h2 b hb)
theorem putE_length {l : List Ent} (h : Rising l) (p : Ent) : (putE l p).length = if hasK l p.key then l.length else l.length + 1 := by
  obtain ⟨A, C, e, _, _, _, _, _, hn⟩ := putE_parts h p
  rw [e, List.length_append, List.length_cons]
  by_cases hh : hasK l p.key = true
  · rw [if_pos hh] at hn ⊢; omega
  · rw [if_neg hh] at hn ⊢; omega
theorem mem_putE {l : List Ent} (h : Rising l) (p q : Ent) : q ∈ putE l p ↔ q = p ∨ (q ∈ l ∧ q.key ≠ p.key) := by
  obtain ⟨A, C, e, h1, h2, _, _, h5, _⟩ := putE_parts h p
  rw [e, List.mem_append, List.mem_cons, h5 q]
  constructor
  · rintro (hq | rfl | hq)
    · exact .inr ⟨.inl (.inl hq), klt_ne (h1 q hq)⟩
    · exact .inl rfl
    · exact .inr ⟨.inl (.inr hq), (klt_ne (h2 q hq)).symm⟩
  · rintro (rfl | ⟨(hq | hq) | hq, hne⟩)
    · exact .inr (.inl rfl)
    · exact .inl hq
    · exact .inr (.inr hq)
    · exact absurd hq.1 hne
theorem findK_some {l : List Ent} {k : ByteArray} {p : Ent} (h : findK l k = some p) : p ∈ l ∧ p.key = k := by
  refine ⟨List.mem_of_find?_eq_some h, ?_⟩
  have := List.find?_some h
  rw [beq_key] at this
  simpa using this
theorem findK_mem {l : List Ent} (hr : Rising l) {p : Ent} (h : p ∈ l) : findK l p.key = some p := by
  induction l with
  | nil => cases h
  | cons q l ih =>
    rw [findK, List.find?_cons, beq_key]
    have hr' := List.pairwise_cons.1 hr
    rcases List.mem_cons.1 h with rfl | h
    · simp
    · have := klt_ne (hr'.1 p h)
      rw [decide_eq_false this]
      exact ih hr'.2 h
theorem findK_none {l : List Ent} {k : ByteArray} : findK l k = none ↔ ∀ p ∈ l, p.key ≠ k := by
  rw [findK, List.find?_eq_none]
  exact ⟨fun h p hp => by have := h p hp; rw [beq_key] at this; simpa using this, fun h p hp => by rw [beq_key]; simpa using h p hp⟩
theorem hasK_find (l : List Ent) (k : ByteArray) : hasK l k = (findK l k).isSome := by
  unfold hasK findK
  rw [Bool.eq_iff_iff, List.find?_isSome, List.any_eq_true]
theorem find_putE {l : List Ent} (h : Rising l) (p : Ent) (k : ByteArray) : findK (putE l p) k = if k = p.key then some p else findK l k := by
  have hr := putE_rising h p
  by_cases e : k = p.key
  · subst e; rw [if_pos rfl]; exact findK_mem hr ((mem_putE h p p).2 (.inl rfl))
  · rw [if_neg e]
    cases hq : findK l k with
    | none =>
      rw [findK_none] at hq ⊢
      intro q hq'
      rcases (mem_putE h p q).1 hq' with rfl | ⟨h1, _⟩
      · exact fun h => e h.symm
      · exact hq q h1
    | some q =>
      obtain ⟨h1, rfl⟩ := findK_some hq
      exact findK_mem hr ((mem_putE h p q).2 (.inr ⟨h1, e⟩))
/-- Two rising lists of the same pairs are one. -/
theorem rising_ext {l m : List Ent} (hl : Rising l) (hm : Rising m) (h : ∀ p, p ∈ l ↔ p ∈ m) : l = m := by
  induction l generalizing m with
  | nil =>
    cases m with
    | nil => rfl
    | cons q m => exact absurd ((h q).2 (by simp)) (by simp)
  | cons p l ih =>
    cases m with
    | nil => exact absurd ((h p).1 (by simp)) (by simp)
    | cons q m =>
      have hl' := List.pairwise_cons.1 hl
      have hm' := List.pairwise_cons.1 hm
      have hpq : p = q := by
        rcases List.mem_cons.1 ((h p).1 (by simp)) with e | h1
        · exact e
        · rcases List.mem_cons.1 ((h q).2 (by simp)) with e | h2
          · exact e.symm
          · have := klt_asymm (hm'.1 p h1)
            rw [hl'.1 q h2] at this; cases this
      subst hpq
      rw [ih hl'.2 hm'.2 fun x => ?_]
      constructor
      · intro hx
        rcases List.mem_cons.1 ((h x).1 (List.mem_cons_of_mem _ hx)) with rfl | h1
        · have := hl'.1 x hx; rw [klt_irrefl] at this; cases this
        · exact h1
      · intro hx
        rcases List.mem_cons.1 ((h x).2 (List.mem_cons_of_mem _ hx)) with rfl | h1
        · have := hm'.1 x hx; rw [klt_irrefl] at this; cases this
        · exact h1

/-! ### laid over -/
end Go.Proofs.Ytidfogcilegloaa
