import Derived.WalkKit
/-!
  The plain law of chains: what the calls of layer 7 compute, as functions of lists.
-/
namespace Go.Proofs.Ytidfogcilegloaa

structure Ver where
  at_ : Int
  val : ByteArray
  dead : Bool

def Ver.zero : Ver := ⟨0, ⟨#[]⟩, false⟩
def Ver.right (v : Ver) : Bool := !v.dead || v.val.toList.isEmpty
def goodFrom (last : Int) : List Ver → Bool
  | [] => true
  | v :: l => decide (last < v.at_) && v.right && goodFrom v.at_ l
def good (l : List Ver) : Bool := goodFrom 0 l
def upTo (l : List Ver) (n : Int) : Nat := (l.takeWhile fun v => decide (v.at_ ≤ n)).length
/-- The version that is seen at a snapshot. -/
def seen (l : List Ver) (n : Int) : Option Ver := (l.takeWhile fun v => decide (v.at_ ≤ n)).getLast?
def live : Option Ver → Option Ver
  | some v => if v.dead then none else some v
  | none => none
def get (l : List Ver) (n : Int) : Option Ver := if good l then live (seen l n) else none
def lastOf (l : List Ver) : Int := if good l then (l.getLast?.map Ver.at_).getD 0 else 0
def since (l : List Ver) (n : Int) : Nat := if good l then l.length - upTo l n else 0
def trimAt (l : List Ver) (n : Int) : Nat := if (live (seen l n)).isSome then upTo l n - 1 else upTo l n
def trim (l : List Ver) (n : Int) : List Ver := if good l then l.drop (trimAt l n) else []
def cut (l : List Ver) (n : Int) : List Ver := if good l then l.take (upTo l n) else []
def canPut (l : List Ver) (v : Ver) : Bool := good l && decide (lastOf l < v.at_) && v.right
def put (l : List Ver) (v : Ver) : List Ver := if canPut l v then l ++ [v] else l

theorem upTo_le (l : List Ver) (n : Int) : upTo l n ≤ l.length := by
  unfold upTo
  exact (List.takeWhile_prefix _).length_le

/-- In versions that may be, places rise. -/
theorem goodFrom_lt : ∀ {l : List Ver} {last : Int}, goodFrom last l = true → ∀ v ∈ l, last < v.at_
  | [], _, _, v, hv => by cases hv
  | x :: l, last, h, v, hv => by
    simp only [goodFrom, Bool.and_eq_true, decide_eq_true_eq] at h
    rcases List.mem_cons.1 hv with rfl | hv
    · exact h.1.1
    · have := goodFrom_lt h.2 v hv; omega
theorem goodFrom_mono : ∀ {l : List Ver} {a b : Int}, b ≤ a → goodFrom a l = true → goodFrom b l = true
  | [], _, _, _, _ => rfl
  | x :: l, a, b, hab, h => by
    simp only [goodFrom, Bool.and_eq_true, decide_eq_true_eq] at h ⊢
    exact ⟨⟨by omega, h.1.2⟩, h.2⟩
theorem goodFrom_sorted : ∀ {l : List Ver} {last : Int}, goodFrom last l = true → l.Pairwise (fun a b => a.at_ < b.at_)
  | [], _, _ => .nil
  | x :: l, last, h => by
    have h0 := h
    simp only [goodFrom, Bool.and_eq_true, decide_eq_true_eq] at h
    exact .cons (goodFrom_lt h.2) (goodFrom_sorted h.2)
/-- What stands ahead of a place is just what the test says. -/
theorem upTo_spec {l : List Ver} {last n : Int} (h : goodFrom last l = true) {i : Nat} {v : Ver} (hi : l[i]? = some v) : v.at_ ≤ n ↔ i < upTo l n := by
  induction l generalizing i last with
  | nil => simp at hi
  | cons x l ih =>
    have h0 := h
    simp only [goodFrom, Bool.and_eq_true, decide_eq_true_eq] at h
    unfold upTo
    rw [List.takeWhile_cons]
    by_cases hx : x.at_ ≤ n
    · simp only [hx, decide_true, if_true, List.length_cons]
      cases i with
      | zero => simp at hi; subst hi; simp [hx]
      | succ i =>
        have := ih h.2 (by simpa using hi)
        unfold upTo at this
        omega
    · simp only [hx, decide_false, Bool.false_eq_true, if_false, List.length_nil, Nat.not_lt_zero, iff_false, Int.not_le]
      cases i with
      | zero => simp at hi; subst hi; omega
      | succ i =>
        have := goodFrom_lt h.2 v (List.mem_of_getElem? (by simpa using hi))
        omega
theorem seen_eq (l : List Ver) (n : Int) : seen l n = if upTo l n = 0 then none else l[upTo l n - 1]? := by
  unfold seen
  rw [List.getLast?_eq_getElem?]
  have hp : l.takeWhile (fun v => decide (v.at_ ≤ n)) <+: l := List.takeWhile_prefix _
  obtain ⟨m, hm⟩ := hp
  by_cases h : upTo l n = 0
  · have : l.takeWhile (fun v => decide (v.at_ ≤ n)) = [] := List.eq_nil_of_length_eq_zero h
    rw [this, if_pos h]; rfl
  · rw [if_neg h]
    have hl : (l.takeWhile fun v => decide (v.at_ ≤ n)).length = upTo l n := rfl
    have e := congrArg (fun z : List Ver => z[upTo l n - 1]?) hm
    rw [List.getElem?_append_left (by omega)] at e
    rw [hl]; exact e
end Go.Proofs.Ytidfogcilegloaa
namespace Go.Proofs.Ytidfogcilegloaa

theorem goodFrom_drop : ∀ {l : List Ver} {a b : Int} {k : Nat}, goodFrom a l = true → b ≤ a → goodFrom b (l.drop k) = true
  | l, _, _, 0, h, hb => goodFrom_mono hb (by simpa using h)
  | [], _, _, _ + 1, _, _ => rfl
  | x :: l, a, b, k + 1, h, hb => by
    simp only [goodFrom, Bool.and_eq_true, decide_eq_true_eq] at h
    exact goodFrom_drop (l := l) (a := x.at_) h.2 (by omega)
theorem goodFrom_take : ∀ {l : List Ver} {a : Int} {k : Nat}, goodFrom a l = true → goodFrom a (l.take k) = true
  | _, _, 0, _ => rfl
  | [], _, _ + 1, _ => rfl
  | x :: l, a, k + 1, h => by
    simp only [goodFrom, Bool.and_eq_true, decide_eq_true_eq] at h
    simp only [List.take_succ_cons, goodFrom, Bool.and_eq_true, decide_eq_true_eq]
    exact ⟨h.1, goodFrom_take h.2⟩
theorem good_trim (l : List Ver) (n : Int) : good (trim l n) = true := by
  unfold trim
  split
  · next h => exact goodFrom_drop h (Int.le_refl _)
  · rfl
theorem good_cut (l : List Ver) (n : Int) : good (cut l n) = true := by
  unfold cut
  split
  · next h => exact goodFrom_take h
  · rfl
theorem trimAt_le' (l : List Ver) (n : Int) : trimAt l n ≤ upTo l n := by unfold trimAt; split <;> omega
theorem upTo_mono_at : ∀ (l : List Ver) {n m : Int}, n ≤ m → upTo l n ≤ upTo l m
  | [], _, _, _ => Nat.le_refl _
  | x :: l, n, m, h => by
    have ih := upTo_mono_at l h
    unfold upTo at *
    rw [List.takeWhile_cons, List.takeWhile_cons]
    by_cases hn : x.at_ ≤ n
    · have hm : x.at_ ≤ m := by omega
      simp only [hn, hm, decide_true, if_true, List.length_cons]; omega
    · simp only [hn, decide_false, Bool.false_eq_true, if_false, List.length_nil, Nat.zero_le]
/-- What is seen from a place on, cut at its head by no more than that place sees. -/
theorem upTo_drop {l : List Ver} {m : Int} {k : Nat} (h : k ≤ upTo l m) : upTo (l.drop k) m = upTo l m - k := by
  induction l generalizing k with
  | nil => simp [upTo]
  | cons x l ih =>
    cases k with
    | zero => simp
    | succ k =>
      have hx : x.at_ ≤ m := by
        unfold upTo at h
        rw [List.takeWhile_cons] at h
        by_cases hx : x.at_ ≤ m
        · exact hx
        · simp [hx] at h
      have hu : upTo (x :: l) m = upTo l m + 1 := by
        unfold upTo; rw [List.takeWhile_cons]; simp [hx]
      rw [List.drop_succ_cons, ih (by omega), hu]; omega
theorem trim_len_le (l : List Ver) (n : Int) : (trim l n).length ≤ l.length := by
  unfold trim; split <;> simp
/-- Trimmed, the same is seen of a snapshot and of all behind it. -/
theorem get_trim {l : List Ver} {n m : Int} (hg : good l = true) (h : n ≤ m) : get (trim l n) m = get l m := by
  have hu := upTo_mono_at l h
  have ht := trimAt_le' l n
  have hl := upTo_le l m
  have e1 : trim l n = l.drop (trimAt l n) := by rw [trim, if_pos hg]
  rw [get, get, if_pos (good_trim l n), if_pos hg, seen_eq, seen_eq, e1, upTo_drop (by omega)]
  by_cases h0 : upTo l m = 0
  · rw [if_pos h0, if_pos (by omega)]
  · rw [if_neg h0]
    by_cases h1 : upTo l m - trimAt l n = 0
    · -- all that is seen has gone: what was seen was dead
      rw [if_pos h1]
      have h2 : trimAt l n = upTo l m := by omega
      have h3 : upTo l n = upTo l m := by omega
      have h4 : ¬ (live (seen l n)).isSome = true := fun h => by
        unfold trimAt at h2; rw [if_pos h] at h2; omega
      rw [seen_eq, if_neg (by omega), h3] at h4
      cases hx : live l[upTo l m - 1]? with
      | none => rfl
      | some v => rw [hx] at h4; simp at h4
    · rw [if_neg h1, List.getElem?_drop]
      congr 2
      omega
theorem since_trim {l : List Ver} {n m : Int} (hg : good l = true) (h : n ≤ m) : since (trim l n) m = since l m := by
  have hu := upTo_mono_at l h
  have ht := trimAt_le' l n
  have hl := upTo_le l m
  have e1 : trim l n = l.drop (trimAt l n) := by rw [trim, if_pos hg]
  rw [since, since, if_pos (good_trim l n), if_pos hg, e1, upTo_drop (by omega), List.length_drop]
  omega
theorem trim_trim {l : List Ver} {n : Int} (hg : good l = true) : trim (trim l n) n = trim l n := by
  have hu := upTo_le l n
  have ht := trimAt_le' l n
  have e1 : trim l n = l.drop (trimAt l n) := by rw [trim, if_pos hg]
  have hgt := get_trim hg (Int.le_refl n)
  have e2 : trimAt (trim l n) n = 0 := by
    have h1 : upTo (trim l n) n = upTo l n - trimAt l n := by rw [e1, upTo_drop ht]
    rw [get, get, if_pos (good_trim l n), if_pos hg] at hgt
    unfold trimAt
    rw [hgt, h1]
    by_cases h : (live (seen l n)).isSome = true
    · rw [if_pos h]; unfold trimAt; rw [if_pos h]; omega
    · rw [if_neg h]; unfold trimAt; rw [if_neg h]; omega
  conv => lhs; rw [trim, if_pos (good_trim l n), e2]
  rfl
theorem cut_len {l : List Ver} {n : Int} (hg : good l = true) : (cut l n).length = upTo l n := by
  have := upTo_le l n
  rw [cut, if_pos hg, List.length_take]; omega
theorem upTo_take : ∀ {l : List Ver} {m : Int} {k : Nat}, upTo l m ≤ k → upTo (l.take k) m = upTo l m
  | [], _, _, _ => by simp [upTo]
  | x :: l, m, 0, h => by
    have : upTo (x :: l) m = 0 := by omega
    rw [this]; rfl
  | x :: l, m, k + 1, h => by
    unfold upTo at *
    rw [List.take_succ_cons, List.takeWhile_cons, List.takeWhile_cons] at *
    by_cases hx : x.at_ ≤ m
    · simp only [hx, decide_true, if_true, List.length_cons] at h ⊢
      have := upTo_take (l := l) (m := m) (k := k) (by unfold upTo; omega)
      unfold upTo at this
      omega
    · simp [hx]
theorem get_cut {l : List Ver} {n m : Int} (hg : good l = true) (h : m ≤ n) : get (cut l n) m = get l m := by
  have hu := upTo_mono_at l h
  have e1 : cut l n = l.take (upTo l n) := by rw [cut, if_pos hg]
  rw [get, get, if_pos (good_cut l n), if_pos hg, seen_eq, seen_eq, e1, upTo_take hu]
  by_cases h0 : upTo l m = 0
  · rw [if_pos h0, if_pos h0]
  · rw [if_neg h0, if_neg h0, List.getElem?_take, if_pos (by omega)]
theorem since_cut {l : List Ver} {n : Int} (hg : good l = true) : since (cut l n) n = 0 := by
  have hu := upTo_le l n
  have e1 : cut l n = l.take (upTo l n) := by rw [cut, if_pos hg]
  rw [since, if_pos (good_cut l n), e1, upTo_take (Nat.le_refl _), List.length_take]
  omega
theorem last_cut {l : List Ver} {n : Int} (hg : good l = true) (h : (cut l n).length ≠ 0) : lastOf (cut l n) ≤ n := by
  have hu := upTo_le l n
  have hc := cut_len (n := n) hg
  rw [lastOf, if_pos (good_cut l n), List.getLast?_eq_getElem?, hc]
  have hlt : upTo l n - 1 < l.length := by omega
  have e1 : cut l n = l.take (upTo l n) := by rw [cut, if_pos hg]
  rw [e1, List.getElem?_take, if_pos (by omega), List.getElem?_eq_getElem hlt]
  have := (upTo_spec (n := n) hg (List.getElem?_eq_getElem hlt)).2 (by omega)
  simpa using this
theorem cut_since {l : List Ver} {n : Int} (hg : good l = true) : (cut l n).length + since l n = l.length := by
  have hu := upTo_le l n
  rw [cut_len hg, since, if_pos hg]; omega
end Go.Proofs.Ytidfogcilegloaa
/-! The plain law of a put version: what is put is told from then on, and nothing changes ahead of it. -/
namespace Go.Proofs.Ytidfogcilegloaa

theorem goodFrom_snoc : ∀ {l : List Ver} {a : Int} {v : Ver}, goodFrom a (l ++ [v]) = (goodFrom a l && decide ((l.getLast?.map Ver.at_).getD a < v.at_) && v.right)
  | [], a, v => by
    show (decide (a < v.at_) && v.right && true) = (true && decide (a < v.at_) && v.right)
    rw [Bool.and_true, Bool.true_and]
  | x :: l, a, v => by
    have ih := goodFrom_snoc (l := l) (a := x.at_) (v := v)
    simp only [List.cons_append, goodFrom, ih]
    have e : ((x :: l).getLast?.map Ver.at_).getD a = (l.getLast?.map Ver.at_).getD x.at_ := by
      cases l with
      | nil => rfl
      | cons y l => rw [List.getLast?_cons_cons]; cases h : (y :: l).getLast? with
        | none => simp at h
        | some z => rfl
    rw [e]
    simp only [Bool.and_assoc]
theorem good_snoc {l : List Ver} {v : Ver} (h : canPut l v = true) : good (l ++ [v]) = true := by
  simp only [canPut, Bool.and_eq_true, decide_eq_true_eq] at h
  obtain ⟨⟨hg, hl⟩, hr⟩ := h
  unfold good
  rw [goodFrom_snoc, show goodFrom 0 l = true from hg, hr]
  simp only [lastOf, hg, if_true] at hl
  simp [hl]
theorem put_yes {l : List Ver} {v : Ver} (h : canPut l v = true) : put l v = l ++ [v] := by simp [put, h]
theorem good_of_canPut {l : List Ver} {v : Ver} (h : canPut l v = true) : good l = true := by
  simp only [canPut, Bool.and_eq_true] at h; exact h.1.1
theorem lastOf_snoc {l : List Ver} {v : Ver} (h : canPut l v = true) : lastOf (l ++ [v]) = v.at_ := by
  simp [lastOf, good_snoc h]
theorem at_le_last {l : List Ver} (hg : good l = true) {x : Ver} (hx : x ∈ l) : x.at_ ≤ lastOf l := by
  have hs := goodFrom_sorted hg
  simp only [lastOf, hg, if_true]
  rcases List.eq_nil_or_concat l with rfl | ⟨l', z, rfl⟩
  · cases hx
  · simp only [List.concat_eq_append] at *
    rw [List.getLast?_concat]
    show x.at_ ≤ z.at_
    rcases List.mem_append.1 hx with h | h
    · have := (List.pairwise_append.1 hs).2.2 x h z (by simp); omega
    · simp at h; subst h; omega
theorem upTo_all {l : List Ver} {n : Int} (h : ∀ x ∈ l, x.at_ ≤ n) : l.takeWhile (fun v => decide (v.at_ ≤ n)) = l := by
  induction l with
  | nil => rfl
  | cons x l ih => rw [List.takeWhile_cons, if_pos (decide_eq_true (h x (by simp))), ih fun y hy => h y (by simp [hy])]
theorem get_put {l : List Ver} {v : Ver} (h : canPut l v = true) : get (l ++ [v]) v.at_ = live (some v) := by
  have hg := good_of_canPut h
  have hlt : lastOf l < v.at_ := by simp only [canPut, Bool.and_eq_true, decide_eq_true_eq] at h; exact h.1.2
  simp only [get, good_snoc h, if_true, seen]
  rw [upTo_all]
  · simp
  · intro x hx
    rcases List.mem_append.1 hx with hx | hx
    · have := at_le_last hg hx; omega
    · simp at hx; subst hx; omega
theorem takeWhile_snoc {l : List Ver} {v : Ver} {n : Int} (h : n < v.at_) : (l ++ [v]).takeWhile (fun x => decide (x.at_ ≤ n)) = l.takeWhile (fun x => decide (x.at_ ≤ n)) := by
  induction l with
  | nil => rw [List.nil_append, List.takeWhile_cons, show decide (v.at_ ≤ n) = false from decide_eq_false (by omega)]; rfl
  | cons x l ih => simp only [List.cons_append, List.takeWhile_cons, ih]
theorem get_put_ahead {l : List Ver} {v : Ver} {n : Int} (h : canPut l v = true) (hn : n < v.at_) : get (l ++ [v]) n = get l n := by
  simp only [get, good_snoc h, good_of_canPut h, if_true, seen, takeWhile_snoc hn]
theorem cut_put {l : List Ver} {v : Ver} (h : canPut l v = true) : cut (l ++ [v]) (lastOf l) = l := by
  have hg := good_of_canPut h
  have hlt : lastOf l < v.at_ := by simp only [canPut, Bool.and_eq_true, decide_eq_true_eq] at h; exact h.1.2
  have e : upTo (l ++ [v]) (lastOf l) = l.length := by
    unfold upTo; rw [takeWhile_snoc hlt, upTo_all fun x hx => at_le_last hg hx]
  simp only [cut, good_snoc h, if_true, e]
  simp
end Go.Proofs.Ytidfogcilegloaa
/-! Entries by keys, in order: plain law. -/
namespace Go.Proofs.Ytidfogcilegloaa
open Go.Op (bytesLess)

structure Ent where
  key : ByteArray
  c : List Ver

theorem bl_irrefl : ∀ x : List UInt8, bytesLess x x = false
  | [] => rfl
  | a :: x => by simp [bytesLess, bl_irrefl x]
theorem bl_trans : ∀ {x y z : List UInt8}, bytesLess x y = true → bytesLess y z = true → bytesLess x z = true
  | [], [], _, h, _ => by simp [bytesLess] at h
  | _ :: _, [], _, h, _ => by simp [bytesLess] at h
  | [], _ :: _, [], _, h => by simp [bytesLess] at h
  | [], _ :: _, _ :: _, _, _ => rfl
  | _ :: _, _ :: _, [], _, h => by simp [bytesLess] at h
  | a :: x, b :: y, c :: z, h, k => by
    simp only [bytesLess, Bool.or_eq_true, Bool.and_eq_true, decide_eq_true_eq, beq_iff_eq] at h k ⊢
    rcases h with h | ⟨rfl, h⟩
    · rcases k with k | ⟨rfl, k⟩
      · exact .inl (UInt8.lt_trans h k)
      · exact .inl h
    · rcases k with k | ⟨rfl, k⟩
      · exact .inl k
      · exact .inr ⟨rfl, bl_trans h k⟩
theorem bl_total : ∀ {x y : List UInt8}, bytesLess x y = false → bytesLess y x = false → x = y
  | [], [], _, _ => rfl
  | _ :: _, [], _, h => by simp [bytesLess] at h
  | [], _ :: _, h, _ => by simp [bytesLess] at h
  | a :: x, b :: y, h, k => by
    simp only [bytesLess, Bool.or_eq_false_iff, Bool.and_eq_false_iff, decide_eq_false_iff_not] at h k
    have e : a = b := UInt8.le_antisymm (UInt8.not_lt.1 k.1) (UInt8.not_lt.1 h.1)
    subst e
    have h2 : bytesLess x y = false := by rcases h.2 with h | h; · simp at h
                                          · exact h
    have k2 : bytesLess y x = false := by rcases k.2 with h | h; · simp at h
                                          · exact h
    rw [bl_total h2 k2]
/-- Not below goes on upwards. -/
theorem bl_up {x y z : List UInt8} (h : bytesLess x y = false) (k : bytesLess z x = false) : bytesLess z y = false := by
  cases hz : bytesLess z y
  · rfl
  · cases hq : bytesLess y x
    · rw [bl_total h hq] at k; rw [hz] at k; cases k
    · have := bl_trans hz hq; rw [k] at this; cases this


def klt (a b : ByteArray) : Bool := bytesLess a.toList b.toList
theorem bytes_eq {a b : ByteArray} (h : a.toList = b.toList) : a = b := by
  rw [ByteArray.toList_eq, ByteArray.toList_eq] at h
  exact ByteArray.ext (Array.toList_inj.mp h)
theorem beq_key (a b : ByteArray) : (a.toList == b.toList) = decide (a = b) := by
  by_cases h : a = b
  · subst h; simp
  · rw [decide_eq_false h]
    cases hq : a.toList == b.toList with
    | false => rfl
    | true => exact absurd (bytes_eq (by simpa using hq)) h
theorem klt_irrefl (a : ByteArray) : klt a a = false := bl_irrefl _
theorem klt_trans {a b c : ByteArray} (h : klt a b = true) (k : klt b c = true) : klt a c = true := bl_trans h k
theorem klt_total {a b : ByteArray} (h : klt a b = false) (k : klt b a = false) : a = b := bytes_eq (bl_total h k)
theorem klt_asymm {a b : ByteArray} (h : klt a b = true) : klt b a = false := by
  cases k : klt b a with
  | false => rfl
  | true => have := klt_trans h k; rw [klt_irrefl] at this; cases this
theorem klt_ne {a b : ByteArray} (h : klt a b = true) : a ≠ b := by rintro rfl; rw [klt_irrefl] at h; cases h
theorem klt_cases (a b : ByteArray) : (klt a b = true ∧ klt b a = false ∧ a ≠ b) ∨ (a = b ∧ klt a b = false ∧ klt b a = false) ∨ (klt a b = false ∧ klt b a = true ∧ a ≠ b) := by
  cases h : klt a b with
  | true => exact .inl ⟨rfl, klt_asymm h, klt_ne h⟩
  | false =>
    cases k : klt b a with
    | true => exact .inr (.inr ⟨rfl, rfl, (klt_ne k).symm⟩)
    | false => exact .inr (.inl ⟨klt_total h k, rfl, rfl⟩)

theorem takeWhile_all {α : Type} (p : α → Bool) : ∀ (l : List α) x, x ∈ l.takeWhile p → p x = true
  | [], _, h => by cases h
  | a :: l, x, h => by
    rw [List.takeWhile_cons] at h
    cases ha : p a with
    | false => rw [ha] at h; simp at h
    | true =>
      rw [ha] at h
      rcases List.mem_cons.1 h with rfl | h
      · exact ha
      · exact takeWhile_all p l x h

/-- Keys rise. -/
def Rising (l : List Ent) : Prop := l.Pairwise fun a b => klt a.key b.key = true
def hasK (l : List Ent) (k : ByteArray) : Bool := l.any fun p => p.key.toList == k.toList
def findK (l : List Ent) (k : ByteArray) : Option Ent := l.find? fun p => p.key.toList == k.toList
/-- Where a key stands, or would. -/
def low (l : List Ent) (k : ByteArray) : Nat := (l.takeWhile fun p => klt p.key k).length
/-- A pair over, or in among, the others. -/
def putE (l : List Ent) (p : Ent) : List Ent := l.take (low l p.key) ++ p :: l.drop (low l p.key + if hasK l p.key then 1 else 0)

theorem Rising.nil : Rising [] := List.Pairwise.nil
theorem Rising.keys {l : List Ent} (h : Rising l) : (l.map (·.key)).Nodup := by
  rw [List.nodup_iff_pairwise_ne, List.pairwise_map]
  exact h.imp fun hab => klt_ne hab
theorem take_low (l : List Ent) (k : ByteArray) : l.take (low l k) = l.takeWhile fun p => klt p.key k := by
  unfold low; exact (List.prefix_iff_eq_take.1 (List.takeWhile_prefix _)).symm
theorem drop_low (l : List Ent) (k : ByteArray) : l.drop (low l k) = l.dropWhile fun p => klt p.key k := by
  have h := List.takeWhile_append_dropWhile (p := fun p : Ent => klt p.key k) (l := l)
  have h2 := List.take_append_drop (low l k) l
  rw [take_low] at h2
  exact List.append_cancel_left (h2.trans h.symm)
/-- A rising list parts at a key. -/
theorem parts {l : List Ent} (h : Rising l) (k : ByteArray) : ∃ A B, l = A ++ B ∧ A.length = low l k ∧ (∀ p ∈ A, klt p.key k = true) ∧
    ((hasK l k = false ∧ ∀ p ∈ B, klt k p.key = true) ∨ (hasK l k = true ∧ ∃ q C, B = q :: C ∧ q.key = k ∧ ∀ p ∈ C, klt k p.key = true)) := by
  refine ⟨l.take (low l k), l.drop (low l k), (List.take_append_drop _ _).symm, ?_, ?_, ?_⟩
  · rw [List.length_take, Nat.min_eq_left]; exact (List.takeWhile_prefix _).length_le
  · rw [take_low]; intro p hp; exact takeWhile_all (fun p : Ent => klt p.key k) l p hp
  · have hA : ∀ p ∈ l.take (low l k), klt p.key k = true := by rw [take_low]; intro p hp; exact takeWhile_all (fun p : Ent => klt p.key k) l p hp
    have hnA : (l.take (low l k)).any (fun p => p.key.toList == k.toList) = false := by
      rw [List.any_eq_false]
      intro p hp
      rw [beq_key]
      simpa using klt_ne (hA p hp)
    have hh : hasK l k = (l.drop (low l k)).any fun p => p.key.toList == k.toList := by
      unfold hasK
      conv => lhs; rw [← List.take_append_drop (low l k) l]
      rw [List.any_append, hnA, Bool.false_or]
    have hB : Rising (l.drop (low l k)) := h.sublist (List.drop_sublist _ _)
    cases hd : l.drop (low l k) with
    | nil => exact .inl ⟨by rw [hh, hd]; rfl, by simp⟩
    | cons q C =>
      rw [hd] at hB hh
      have hq : klt q.key k = false := by
        rw [drop_low] at hd
        have := List.head?_dropWhile_not (fun p : Ent => klt p.key k) l
        rw [hd] at this
        simpa using this
      have hC : ∀ p ∈ C, klt q.key p.key = true := fun p hp => (List.pairwise_cons.1 hB).1 p hp
      rcases klt_cases q.key k with ⟨h1, _⟩ | ⟨rfl, _⟩ | ⟨_, h1, hne⟩
      · rw [h1] at hq; cases hq
      · exact .inr ⟨by rw [hh]; simp, q, C, rfl, rfl, hC⟩
      · have hall : ∀ p ∈ q :: C, klt k p.key = true := by
          intro p hp
          rcases List.mem_cons.1 hp with rfl | hp
          · exact h1
          · exact klt_trans h1 (hC p hp)
        refine .inl ⟨?_, hall⟩
        rw [hh, List.any_eq_false]
        intro p hp
        rw [beq_key]
        simpa using (klt_ne (hall p hp)).symm
theorem putE_parts {l : List Ent} (h : Rising l) (p : Ent) : ∃ A C, putE l p = A ++ p :: C ∧ (∀ q ∈ A, klt q.key p.key = true) ∧ (∀ q ∈ C, klt p.key q.key = true) ∧ Rising A ∧ Rising C ∧ (∀ q, q ∈ l ↔ (q ∈ A ∨ q ∈ C) ∨ (q.key = p.key ∧ q ∈ l)) ∧
    A.length + C.length + (if hasK l p.key then 1 else 0) = l.length := by
  obtain ⟨A, B, rfl, hA, h1, h2⟩ := parts h p.key
  have hr := List.pairwise_append.1 h
  have e1 : (A ++ B).take (low (A ++ B) p.key) = A := by rw [← hA]; simp
  have e2 : ∀ j, (A ++ B).drop (low (A ++ B) p.key + j) = B.drop j := by intro j; rw [← hA, List.drop_append]; simp
  rcases h2 with ⟨h2, h3⟩ | ⟨h2, q, C, rfl, h3, h4⟩
  · refine ⟨A, B, by rw [putE, e1, h2, e2]; simp, h1, h3, hr.1, hr.2.1, fun q => ?_, by rw [h2]; simp⟩
    constructor
    · intro hq; exact .inl (List.mem_append.1 hq)
    · rintro (hq | hq)
      · exact List.mem_append.2 hq
      · exact hq.2
  · refine ⟨A, C, by rw [putE, e1, h2, e2]; simp, h1, h4, hr.1, (List.pairwise_cons.1 hr.2.1).2, fun x => ?_, by rw [h2]; simp; omega⟩
    constructor
    · intro hx
      rcases List.mem_append.1 hx with hx | hx
      · exact .inl (.inl hx)
      · rcases List.mem_cons.1 hx with rfl | hx
        · exact .inr ⟨h3, by simp⟩
        · exact .inl (.inr hx)
    · rintro ((hx | hx) | hx)
      · exact List.mem_append_left _ hx
      · exact List.mem_append_right _ (List.mem_cons_of_mem _ hx)
      · exact hx.2
theorem putE_rising {l : List Ent} (h : Rising l) (p : Ent) : Rising (putE l p) := by
  obtain ⟨A, C, e, h1, h2, h3, h4, _⟩ := putE_parts h p
  rw [e]
  refine List.pairwise_append.2 ⟨h3, List.pairwise_cons.2 ⟨h2, h4⟩, fun a ha b hb => ?_⟩
  rcases List.mem_cons.1 hb with rfl | hb
  · exact h1 a ha
  · exact klt_trans (h1 a ha) (h2 b hb)
theorem putE_length {l : List Ent} (h : Rising l) (p : Ent) : (putE l p).length = if hasK l p.key then l.length else l.length + 1 := by
  obtain ⟨A, C, e, _, _, _, _, _, hn⟩ := putE_parts h p
  rw [e, List.length_append, List.length_cons]
  by_cases hh : hasK l p.key = true
  · rw [if_pos hh] at hn ⊢; omega
  · rw [if_neg hh] at hn ⊢; omega
theorem mem_putE {l : List Ent} (h : Rising l) (p q : Ent) : q ∈ putE l p ↔ q = p ∨ (q ∈ l ∧ q.key ≠ p.key) := by
  obtain ⟨A, C, e, h1, h2, _, _, h5, _⟩ := putE_parts h p
  rw [e, List.mem_append, List.mem_cons, h5 q]
  constructor
  · rintro (hq | rfl | hq)
    · exact .inr ⟨.inl (.inl hq), klt_ne (h1 q hq)⟩
    · exact .inl rfl
    · exact .inr ⟨.inl (.inr hq), (klt_ne (h2 q hq)).symm⟩
  · rintro (rfl | ⟨(hq | hq) | hq, hne⟩)
    · exact .inr (.inl rfl)
    · exact .inl hq
    · exact .inr (.inr hq)
    · exact absurd hq.1 hne
theorem findK_some {l : List Ent} {k : ByteArray} {p : Ent} (h : findK l k = some p) : p ∈ l ∧ p.key = k := by
  refine ⟨List.mem_of_find?_eq_some h, ?_⟩
  have := List.find?_some h
  rw [beq_key] at this
  simpa using this
theorem findK_mem {l : List Ent} (hr : Rising l) {p : Ent} (h : p ∈ l) : findK l p.key = some p := by
  induction l with
  | nil => cases h
  | cons q l ih =>
    rw [findK, List.find?_cons, beq_key]
    have hr' := List.pairwise_cons.1 hr
    rcases List.mem_cons.1 h with rfl | h
    · simp
    · have := klt_ne (hr'.1 p h)
      rw [decide_eq_false this]
      exact ih hr'.2 h
theorem findK_none {l : List Ent} {k : ByteArray} : findK l k = none ↔ ∀ p ∈ l, p.key ≠ k := by
  rw [findK, List.find?_eq_none]
  exact ⟨fun h p hp => by have := h p hp; rw [beq_key] at this; simpa using this, fun h p hp => by rw [beq_key]; simpa using h p hp⟩
theorem hasK_find (l : List Ent) (k : ByteArray) : hasK l k = (findK l k).isSome := by
  unfold hasK findK
  rw [Bool.eq_iff_iff, List.find?_isSome, List.any_eq_true]
theorem find_putE {l : List Ent} (h : Rising l) (p : Ent) (k : ByteArray) : findK (putE l p) k = if k = p.key then some p else findK l k := by
  have hr := putE_rising h p
  by_cases e : k = p.key
  · subst e; rw [if_pos rfl]; exact findK_mem hr ((mem_putE h p p).2 (.inl rfl))
  · rw [if_neg e]
    cases hq : findK l k with
    | none =>
      rw [findK_none] at hq ⊢
      intro q hq'
      rcases (mem_putE h p q).1 hq' with rfl | ⟨h1, _⟩
      · exact fun h => e h.symm
      · exact hq q h1
    | some q =>
      obtain ⟨h1, rfl⟩ := findK_some hq
      exact findK_mem hr ((mem_putE h p q).2 (.inr ⟨h1, e⟩))
/-- Two rising lists of the same pairs are one. -/
theorem rising_ext {l m : List Ent} (hl : Rising l) (hm : Rising m) (h : ∀ p, p ∈ l ↔ p ∈ m) : l = m := by
  induction l generalizing m with
  | nil =>
    cases m with
    | nil => rfl
    | cons q m => exact absurd ((h q).2 (by simp)) (by simp)
  | cons p l ih =>
    cases m with
    | nil => exact absurd ((h p).1 (by simp)) (by simp)
    | cons q m =>
      have hl' := List.pairwise_cons.1 hl
      have hm' := List.pairwise_cons.1 hm
      have hpq : p = q := by
        rcases List.mem_cons.1 ((h p).1 (by simp)) with e | h1
        · exact e
        · rcases List.mem_cons.1 ((h q).2 (by simp)) with e | h2
          · exact e.symm
          · have := klt_asymm (hm'.1 p h1)
            rw [hl'.1 q h2] at this; cases this
      subst hpq
      rw [ih hl'.2 hm'.2 fun x => ?_]
      constructor
      · intro hx
        rcases List.mem_cons.1 ((h x).1 (List.mem_cons_of_mem _ hx)) with rfl | h1
        · have := hl'.1 x hx; rw [klt_irrefl] at this; cases this
        · exact h1
      · intro hx
        rcases List.mem_cons.1 ((h x).2 (List.mem_cons_of_mem _ hx)) with rfl | h1
        · have := hm'.1 x hx; rw [klt_irrefl] at this; cases this
        · exact h1

/-! ### laid over -/
end Go.Proofs.Ytidfogcilegloaa
/-! The store: plain law. -/
namespace Go.Proofs.Ytidfogcilegloaa

structure Pair where
  key : ByteArray
  val : ByteArray
  dead : Bool
def Pair.zero : Pair := ⟨⟨#[]⟩, ⟨#[]⟩, false⟩
structure Sto where
  ents : List Ent
  last : Int
  floor : Int
def chainOf (E : List Ent) (k : ByteArray) : List Ver := ((findK E k).map Ent.c).getD []
def verOf (n : Int) (p : Pair) : Ver := ⟨n, p.val, p.dead⟩
def addE (n : Int) (E : List Ent) (p : Pair) : List Ent := putE E ⟨p.key, chainOf E p.key ++ [verOf n p]⟩
def addAll (n : Int) (E : List Ent) (l : List Pair) : List Ent := l.foldl (addE n) E
def goodP (p : Pair) : Bool := decide (1 ≤ p.key.size) && decide (p.key.size ≤ 64) && decide (p.val.size ≤ 256) && (!p.dead || p.val.toList.isEmpty)
def above (o : Option ByteArray) (k : ByteArray) : Bool := match o with | none => true | some a => klt a k
def goodGo : Option ByteArray → List Pair → Bool
  | _, [] => true
  | o, p :: l => goodP p && above o p.key && goodGo (some p.key) l
def goodL (l : List Pair) : Bool := goodGo none l
def inst (S : Sto) (n : Int) (l : List Pair) : Int × Sto := if goodL l = true ∧ n = S.last + 1 then (0, ⟨addAll n S.ents l, n, S.floor⟩) else (2, S)
def may (S : Sto) (n : Int) : Int := if n < S.floor then 11 else if S.last < n then 2 else 0
def getS (S : Sto) (k : ByteArray) (n : Int) : ByteArray × Int := if may S n = 0 then (match get (chainOf S.ents k) n with | some v => (v.val, 0) | none => (⟨#[]⟩, 8)) else (⟨#[]⟩, may S n)
def inR (a b k : ByteArray) : Bool := !klt k a && klt k b
def pick (x y : ByteArray) (n : Int) (e : Ent) : Option Pair := if inR x y e.key then (get e.c n).map fun v => ⟨e.key, v.val, false⟩ else none
def scan (E : List Ent) (x y : ByteArray) (n : Int) : List Pair := E.filterMap (pick x y n)
def scanS (S : Sto) (x y : ByteArray) (n most : Int) : List Pair × Int := if may S n = 0 then ((scan S.ents x y n).take most.toNat, 0) else ([], may S n)
def within (E : List Ent) (x y : ByteArray) (n : Int) : Bool := E.any fun e => inR x y e.key && decide (0 < since e.c n)
def wrote (E : List Ent) (k : ByteArray) (n : Int) : Bool := decide (0 < since (chainOf E k) n)
def trimE (n : Int) (e : Ent) : Ent := ⟨e.key, trim e.c n⟩
def full (e : Ent) : Bool := !e.c.isEmpty
def trims (E : List Ent) (n : Int) : List Ent := (E.map (trimE n)).filter full
def coll (S : Sto) (n : Int) : Int × Sto := if n < S.floor ∨ S.last < n then (2, S) else (0, ⟨trims S.ents n, S.last, n⟩)
def vers (E : List Ent) : Nat := (E.map fun e => e.c.length).sum
def Sto.new : Sto := ⟨[], 0, 0⟩

/-- What a chain of a store is. -/
def ChOk (n : Int) (e : Ent) : Prop := good e.c = true ∧ e.c ≠ [] ∧ (∀ v ∈ e.c, v.at_ ≤ n) ∧ 1 ≤ e.key.size ∧ e.key.size ≤ 64
structure Sto.Ok (S : Sto) : Prop where
  rising : Rising S.ents
  chains : ∀ e ∈ S.ents, ChOk S.last e
  fl : 0 ≤ S.floor
  le : S.floor ≤ S.last
theorem Sto.Ok.new : Sto.new.Ok := ⟨Rising.nil, (fun _ h => by cases h), Int.le_refl _, Int.le_refl _⟩

theorem chainOf_mem {E : List Ent} (hr : Rising E) {e : Ent} (h : e ∈ E) : chainOf E e.key = e.c := by rw [chainOf, findK_mem hr h]; rfl
theorem chainOf_none {E : List Ent} {k : ByteArray} (h : findK E k = none) : chainOf E k = [] := by rw [chainOf, h]; rfl
theorem chainOf_put {E : List Ent} (hr : Rising E) (e : Ent) (k : ByteArray) : chainOf (putE E e) k = if k = e.key then e.c else chainOf E k := by
  rw [chainOf, find_putE hr]
  by_cases h : k = e.key
  · rw [if_pos h, if_pos h]; rfl
  · rw [if_neg h, if_neg h]; rfl
theorem chainOf_add {E : List Ent} (hr : Rising E) (n : Int) (p : Pair) (k : ByteArray) : chainOf (addE n E p) k = if k = p.key then chainOf E k ++ [verOf n p] else chainOf E k := by
  rw [addE, chainOf_put hr]
  by_cases h : k = p.key
  · subst h; simp
  · rw [if_neg h, if_neg h]
theorem addE_rising {E : List Ent} (hr : Rising E) (n : Int) (p : Pair) : Rising (addE n E p) := putE_rising hr _
theorem addAll_rising : ∀ {l : List Pair} {E : List Ent} (_ : Rising E) (n : Int), Rising (addAll n E l)
  | [], _, h, _ => h
  | p :: l, _, h, n => addAll_rising (l := l) (addE_rising h n p) n

theorem goodGo_all : ∀ {l : List Pair} {o : Option ByteArray}, goodGo o l = true → (∀ p ∈ l, goodP p = true ∧ above o p.key = true) ∧ l.Pairwise (fun a b => klt a.key b.key = true)
  | [], _, _ => ⟨(fun _ h => by cases h), .nil⟩
  | p :: l, o, h => by
    simp only [goodGo, Bool.and_eq_true] at h
    obtain ⟨h1, h2⟩ := goodGo_all h.2
    refine ⟨fun q hq => ?_, .cons (fun q hq => (h1 q hq).2) h2⟩
    rcases List.mem_cons.1 hq with rfl | hq
    · exact h.1
    · refine ⟨(h1 q hq).1, ?_⟩
      cases o with
      | none => rfl
      | some a => exact klt_trans h.1.2 (h1 q hq).2
theorem goodL_all {l : List Pair} (h : goodL l = true) : (∀ p ∈ l, goodP p = true) ∧ l.Pairwise (fun a b => klt a.key b.key = true) :=
  ⟨fun p hp => ((goodGo_all h).1 p hp).1, (goodGo_all h).2⟩
theorem goodP_size {p : Pair} (h : goodP p = true) : 1 ≤ p.key.size ∧ p.key.size ≤ 64 ∧ p.val.size ≤ 256 ∧ (!p.dead || p.val.toList.isEmpty) = true := by
  simp only [goodP, Bool.and_eq_true, decide_eq_true_eq] at h
  exact ⟨h.1.1.1, h.1.1.2, h.1.2, h.2⟩
theorem verOf_right {p : Pair} (h : goodP p = true) (n : Int) : (verOf n p).right = true := (goodP_size h).2.2.2

theorem lastOf_le {l : List Ver} {m : Int} (hm : 0 ≤ m) (h : ∀ v ∈ l, v.at_ ≤ m) : lastOf l ≤ m := by
  unfold lastOf
  split
  · cases hl : l.getLast? with
    | none => exact hm
    | some v => exact h v (List.mem_of_getLast? hl)
  · exact hm
theorem canPut_of {l : List Ver} {v : Ver} {m : Int} (hg : good l = true) (hm : 0 ≤ m) (h : ∀ x ∈ l, x.at_ ≤ m) (hv : m < v.at_) (hr : v.right = true) : canPut l v = true := by
  have := lastOf_le hm h
  simp [canPut, hg, hr]; omega

/-- A chain of entries between two installs: those whose keys come yet end ahead of the place. -/
structure Mid (m : Int) (E : List Ent) (l : List Pair) : Prop where
  rising : Rising E
  chains : ∀ e ∈ E, ChOk (m + 1) e
  still : ∀ p ∈ l, ∀ v ∈ chainOf E p.key, v.at_ ≤ m
theorem Mid.start {S : Sto} (h : S.Ok) (l : List Pair) : Mid S.last S.ents l :=
  ⟨h.rising, fun e he => ⟨(h.chains e he).1, (h.chains e he).2.1, fun v hv => by have := (h.chains e he).2.2.1 v hv; omega, (h.chains e he).2.2.2⟩, fun p _ v hv => by
    rw [chainOf] at hv
    cases hf : findK S.ents p.key with
    | none => rw [hf] at hv; cases hv
    | some e => rw [hf] at hv; exact (h.chains e (findK_some hf).1).2.2.1 v hv⟩
theorem chainOf_good {E : List Ent} {m : Int} (h : ∀ e ∈ E, ChOk m e) (k : ByteArray) : good (chainOf E k) = true := by
  rw [chainOf]
  cases hf : findK E k with
  | none => rfl
  | some e => exact (h e (findK_some hf).1).1
theorem Mid.can {m : Int} {E : List Ent} {p : Pair} {l : List Pair} (h : Mid m E (p :: l)) (hm : 0 ≤ m) (hp : goodP p = true) : canPut (chainOf E p.key) (verOf (m + 1) p) = true :=
  canPut_of (chainOf_good h.chains _) hm (h.still p (by simp)) (by show m < m + 1; omega) (verOf_right hp _)
theorem Mid.step {m : Int} {E : List Ent} {p : Pair} {l : List Pair} (h : Mid m E (p :: l)) (hm : 0 ≤ m) (hp : goodP p = true) (hlt : ∀ q ∈ l, klt p.key q.key = true) : Mid m (addE (m + 1) E p) l := by
  have hc := h.can hm hp
  refine ⟨addE_rising h.rising _ _, fun e he => ?_, fun q hq v hv => ?_⟩
  · rcases (mem_putE h.rising _ e).1 he with rfl | ⟨h1, _⟩
    · refine ⟨good_snoc hc, by simp, fun v hv => ?_, (goodP_size hp).1, (goodP_size hp).2.1⟩
      rcases List.mem_append.1 hv with hv | hv
      · have := h.still p (by simp) v hv; omega
      · rw [List.mem_singleton.1 hv]; exact Int.le_refl _
    · exact h.chains e h1
  · rw [chainOf_add h.rising, if_neg (klt_ne (hlt q hq)).symm] at hv
    exact h.still q (List.mem_cons_of_mem _ hq) v hv
theorem Mid.all : ∀ {l : List Pair} {m : Int} {E : List Ent} (_ : Mid m E l) (_ : 0 ≤ m) (_ : ∀ p ∈ l, goodP p = true) (_ : l.Pairwise fun a b => klt a.key b.key = true), Mid m (addAll (m + 1) E l) []
  | [], _, _, h, _, _, _ => h
  | p :: l, m, E, h, hm, hg, hp => Mid.all (l := l) (h.step hm (hg p (by simp)) (List.pairwise_cons.1 hp).1) hm (fun q hq => hg q (List.mem_cons_of_mem _ hq)) (List.pairwise_cons.1 hp).2
theorem inst_ok {S : Sto} (h : S.Ok) (n : Int) (l : List Pair) : (inst S n l).2.Ok := by
  unfold inst
  split
  · rename_i hc
    obtain ⟨hg, rfl⟩ := hc
    obtain ⟨g1, g2⟩ := goodL_all hg
    have h0 := h.fl
    have h1 := h.le
    have hM := Mid.all (Mid.start h l) (by omega) g1 g2
    exact ⟨hM.rising, hM.chains, h.fl, by show S.floor ≤ S.last + 1; omega⟩
  · exact h

theorem trims_mem {E : List Ent} {n : Int} {e : Ent} : e ∈ trims E n ↔ ∃ a ∈ E, e = ⟨a.key, trim a.c n⟩ ∧ trim a.c n ≠ [] := by
  unfold trims
  rw [List.mem_filter, List.mem_map]
  constructor
  · rintro ⟨⟨a, ha, rfl⟩, h2⟩
    exact ⟨a, ha, rfl, by simpa [full, trimE] using h2⟩
  · rintro ⟨a, ha, rfl, h2⟩
    exact ⟨⟨a, ha, rfl⟩, by simpa [full] using h2⟩
theorem trims_rising {E : List Ent} (h : Rising E) (n : Int) : Rising (trims E n) := by
  refine List.Pairwise.filter _ ?_
  rw [List.pairwise_map]
  exact h
theorem trim_mem {l : List Ver} {n : Int} {v : Ver} (h : v ∈ trim l n) : v ∈ l := by
  unfold trim at h
  split at h
  · exact List.mem_of_mem_drop h
  · cases h
theorem coll_ok {S : Sto} (h : S.Ok) (n : Int) : (coll S n).2.Ok := by
  unfold coll
  split
  · exact h
  · rename_i hc
    have h0 := h.fl
    refine ⟨trims_rising h.rising n, fun e he => ?_, by show 0 ≤ n; omega, by show n ≤ S.last; omega⟩
    obtain ⟨a, ha, rfl, hne⟩ := trims_mem.1 he
    have hk := h.chains a ha
    exact ⟨good_trim _ _, hne, fun v hv => hk.2.2.1 v (trim_mem hv), hk.2.2.2⟩
theorem addE_length {E : List Ent} (hr : Rising E) (n : Int) (p : Pair) : (addE n E p).length ≤ E.length + 1 := by
  rw [addE, putE_length hr]; split <;> omega
theorem addAll_length : ∀ {l : List Pair} {E : List Ent} (_ : Rising E) (n : Int), (addAll n E l).length ≤ E.length + l.length
  | [], _, _, _ => by simp [addAll]
  | p :: l, E, h, n => by
    have h1 := addAll_length (l := l) (addE_rising h n p) n
    have h2 := addE_length h n p
    show (addAll n (addE n E p) l).length ≤ _
    simp only [List.length_cons]; omega
theorem trims_length (E : List Ent) (n : Int) : (trims E n).length ≤ E.length := by
  unfold trims
  exact Nat.le_trans (List.length_filter_le _ _) (by simp)
theorem good_length {l : List Ver} : ∀ {a m : Int}, goodFrom a l = true → a ≤ m → (∀ v ∈ l, v.at_ ≤ m) → (l.length : Int) ≤ m - a := by
  induction l with
  | nil => intro a m _ h _; simp; omega
  | cons x l ih =>
    intro a m h ham hv
    simp only [goodFrom, Bool.and_eq_true, decide_eq_true_eq] at h
    have hx := hv x (by simp)
    have := ih h.2 hx fun v hm => hv v (List.mem_cons_of_mem _ hm)
    simp only [List.length_cons]; omega
theorem ChOk.len {m : Int} {e : Ent} (h : ChOk m e) (hm : 0 ≤ m) : (e.c.length : Int) ≤ m := by
  have := good_length (a := 0) (m := m) h.1 hm h.2.2.1
  omega
end Go.Proofs.Ytidfogcilegloaa
/-! Of a store's ranges: plain law. -/
namespace Go.Proofs.Ytidfogcilegloaa
open Go.Op (bytesLess)

theorem bl_zero : ∀ (y x : List UInt8), bytesLess x (y ++ [0]) = !bytesLess y x
  | [], [] => rfl
  | [], a :: x => by simp [bytesLess]
  | b :: y, [] => rfl
  | b :: y, a :: x => by
    have ih := bl_zero y x
    simp only [List.cons_append, bytesLess, ih]
    rcases Nat.lt_trichotomy a.toNat b.toNat with h | h | h
    · have h1 : a < b := UInt8.lt_iff_toNat_lt.2 h
      have h2 : ¬ b < a := fun k => by have := UInt8.lt_iff_toNat_lt.1 k; omega
      have h3 : ¬ b = a := fun e => by subst e; omega
      simp [h1, h2, h3]
    · have : a = b := UInt8.toNat_inj.1 h
      subst this
      simp
    · have h1 : b < a := UInt8.lt_iff_toNat_lt.2 h
      have h2 : ¬ a < b := fun k => by have := UInt8.lt_iff_toNat_lt.1 k; omega
      have h3 : ¬ a = b := fun e => by subst e; omega
      simp [h1, h2, h3]
theorem toList_app (x y : ByteArray) : (x ++ y).toList = x.toList ++ y.toList := by
  rw [ByteArray.toList_eq, ByteArray.toList_eq, ByteArray.toList_eq, ByteArray.data_append, Array.toList_append]
theorem klt_zero (k x : ByteArray) : klt x (k ++ ⟨#[0]⟩) = !klt k x := by
  unfold klt
  rw [toList_app, show (⟨#[0]⟩ : ByteArray).toList = [0] by rw [ByteArray.toList_eq]]
  exact bl_zero _ _
theorem inR_point (k x : ByteArray) : inR k (k ++ ⟨#[0]⟩) x = decide (x = k) := by
  rw [inR, klt_zero]
  rcases klt_cases x k with ⟨h1, h2, h3⟩ | ⟨h1, h2, h3⟩ | ⟨h1, h2, h3⟩
  · rw [h1, h2, decide_eq_false h3]; rfl
  · rw [h2, h3, decide_eq_true h1]; rfl
  · rw [h1, h2, decide_eq_false h3]; rfl
theorem since_nil (n : Int) : since [] n = 0 := by
  unfold since
  split <;> simp
theorem wrote_point {E : List Ent} (hr : Rising E) (k : ByteArray) (n : Int) : wrote E k n = within E k (k ++ ⟨#[0]⟩) n := by
  unfold wrote within
  rw [Bool.eq_iff_iff, List.any_eq_true]
  constructor
  · intro h
    rw [decide_eq_true_eq, chainOf] at h
    cases hf : findK E k with
    | none => rw [hf] at h; simp [since_nil] at h
    | some e =>
      rw [hf] at h
      obtain ⟨he, rfl⟩ := findK_some hf
      exact ⟨e, he, by rw [inR_point]; simpa using h⟩
  · rintro ⟨e, he, h⟩
    rw [inR_point, Bool.and_eq_true, decide_eq_true_eq] at h
    obtain ⟨rfl, h⟩ := h
    rw [chainOf_mem hr he]; exact h
theorem inR_split {a m b : ByteArray} (h1 : klt m a = false) (h2 : klt b m = false) (k : ByteArray) : inR a b k = (inR a m k || inR m b k) := by
  unfold inR
  cases hkm : klt k m
  · have : klt k a = false := by
      cases h : klt k a
      · rfl
      · -- k < a ≤ m
        rcases klt_cases a m with ⟨g, _, _⟩ | ⟨rfl, _, _⟩ | ⟨_, g, _⟩
        · have := klt_trans h g; rw [hkm] at this; cases this
        · rw [hkm] at h; cases h
        · rw [h1] at g; cases g
    simp [this]
  · have : klt k b = true := by
      rcases klt_cases m b with ⟨g, _, _⟩ | ⟨rfl, _, _⟩ | ⟨_, g, _⟩
      · exact klt_trans hkm g
      · exact hkm
      · rw [h2] at g; cases g
    simp [this]
theorem within_split {E : List Ent} {a m b : ByteArray} (h1 : klt m a = false) (h2 : klt b m = false) (n : Int) : within E a b n = (within E a m n || within E m b n) := by
  unfold within
  induction E with
  | nil => rfl
  | cons e E ih =>
    rw [List.any_cons, List.any_cons, List.any_cons, ih, inR_split h1 h2]
    cases inR a m e.key <;> cases inR m b e.key <;> cases decide (0 < since e.c n) <;> simp
theorem since_last {l : List Ver} {n : Int} (h : ∀ v ∈ l, v.at_ ≤ n) : since l n = 0 := by
  unfold since upTo
  split
  · have : (l.takeWhile fun v => decide (v.at_ ≤ n)) = l := by
      have := List.takeWhile_append_of_pos (p := fun v : Ver => decide (v.at_ ≤ n)) (l₁ := l) (l₂ := []) fun v hv => by simpa using h v hv
      simpa using this
    rw [this]; omega
  · rfl
theorem within_last {S : Sto} (h : S.Ok) (a b : ByteArray) {n : Int} (hn : S.last ≤ n) : within S.ents a b n = false := by
  unfold within
  rw [List.any_eq_false]
  intro e he
  rw [since_last fun v hv => Int.le_trans ((h.chains e he).2.2.1 v hv) hn]
  simp
end Go.Proofs.Ytidfogcilegloaa
/-! What a range of a store has stays: plain law. -/
namespace Go.Proofs.Ytidfogcilegloaa

/-- Two lists in order with the same members are the same. -/
theorem order_ext {α : Type} (f : α → ByteArray) : ∀ {a b : List α}, (a.Pairwise fun p q => klt (f p) (f q) = true) → (b.Pairwise fun p q => klt (f p) (f q) = true) → (∀ p, p ∈ a ↔ p ∈ b) → a = b
  | [], [], _, _, _ => rfl
  | [], q :: b, _, _, h => absurd ((h q).2 (by simp)) (by simp)
  | p :: a, [], _, _, h => absurd ((h p).1 (by simp)) (by simp)
  | p :: a, q :: b, ha, hb, h => by
    obtain ⟨a1, a2⟩ := List.pairwise_cons.1 ha
    obtain ⟨b1, b2⟩ := List.pairwise_cons.1 hb
    have e : p = q := by
      rcases List.mem_cons.1 ((h p).1 (by simp)) with e | hp
      · exact e
      · rcases List.mem_cons.1 ((h q).2 (by simp)) with e | hq
        · exact e.symm
        · have := klt_trans (a1 q hq) (b1 p hp)
          rw [klt_irrefl] at this; cases this
    subst e
    have := order_ext f a2 b2 fun r => by
      constructor
      · intro hr
        rcases List.mem_cons.1 ((h r).1 (List.mem_cons_of_mem _ hr)) with e | hr'
        · subst e
          have := a1 r hr
          rw [klt_irrefl] at this; cases this
        · exact hr'
      · intro hr
        rcases List.mem_cons.1 ((h r).2 (List.mem_cons_of_mem _ hr)) with e | hr'
        · subst e
          have := b1 r hr
          rw [klt_irrefl] at this; cases this
        · exact hr'
    rw [this]
theorem get_nil (n : Int) : get [] n = none := by
  unfold get
  split
  · rfl
  · rfl
theorem mem_scan {E : List Ent} (hr : Rising E) (x y : ByteArray) (n : Int) (p : Pair) : p ∈ scan E x y n ↔ ∃ v, get (chainOf E p.key) n = some v ∧ inR x y p.key = true ∧ p = ⟨p.key, v.val, false⟩ := by
  unfold scan
  rw [List.mem_filterMap]
  constructor
  · rintro ⟨e, he, h⟩
    unfold pick at h
    split at h
    · rename_i hin
      obtain ⟨v, hv, rfl⟩ := Option.map_eq_some_iff.1 h
      exact ⟨v, by show get (chainOf E e.key) n = _; rw [chainOf_mem hr he]; exact hv, hin, rfl⟩
    · cases h
  · rintro ⟨v, hv, hin, hp⟩
    cases hf : findK E p.key with
    | none => rw [chainOf_none hf, get_nil] at hv; cases hv
    | some e =>
      obtain ⟨he, hk⟩ := findK_some hf
      refine ⟨e, he, ?_⟩
      rw [← hk, chainOf_mem hr he] at hv
      unfold pick
      rw [hk, if_pos hin, hv, hp]; rfl
theorem scan_order {E : List Ent} (hr : Rising E) (x y : ByteArray) (n : Int) : (scan E x y n).Pairwise fun p q => klt p.key q.key = true := by
  unfold scan
  refine List.Pairwise.filterMap _ ?_ hr
  intro a a' haa b hb b' hb'
  have key : ∀ {a : Ent} {b : Pair}, pick x y n a = some b → b.key = a.key := fun {a b} h => by
    unfold pick at h
    split at h
    · obtain ⟨v, _, rfl⟩ := Option.map_eq_some_iff.1 h; rfl
    · cases h
  rw [key hb, key hb']; exact haa
theorem scan_ext {E E' : List Ent} (hr : Rising E) (hr' : Rising E') {n m : Int} (h : ∀ k, get (chainOf E k) n = get (chainOf E' k) m) (x y : ByteArray) : scan E x y n = scan E' x y m :=
  order_ext Pair.key (scan_order hr x y n) (scan_order hr' x y m) fun p => by rw [mem_scan hr, mem_scan hr', h]
theorem add_get {m : Int} {E : List Ent} {p : Pair} {l : List Pair} (h : Mid m E (p :: l)) (hm : 0 ≤ m) (hp : goodP p = true) {s : Int} (hs : s ≤ m) (k : ByteArray) : get (chainOf (addE (m + 1) E p) k) s = get (chainOf E k) s := by
  rw [chainOf_add h.rising]
  by_cases hk : k = p.key
  · subst hk
    rw [if_pos rfl]
    exact get_put_ahead (h.can hm hp) (by show s < m + 1; omega)
  · rw [if_neg hk]
theorem addAll_get : ∀ {l : List Pair} {m : Int} {E : List Ent} (_ : Mid m E l) (_ : 0 ≤ m) (_ : ∀ p ∈ l, goodP p = true) (_ : l.Pairwise fun a b => klt a.key b.key = true) {s : Int} (_ : s ≤ m) (k : ByteArray), get (chainOf (addAll (m + 1) E l) k) s = get (chainOf E k) s
  | [], _, _, _, _, _, _, _, _, _ => rfl
  | p :: l, m, E, h, hm, hg, hp, s, hs, k => by
    show get (chainOf (addAll (m + 1) (addE (m + 1) E p) l) k) s = _
    rw [addAll_get (h.step hm (hg p (by simp)) (List.pairwise_cons.1 hp).1) hm (fun q hq => hg q (List.mem_cons_of_mem _ hq)) (List.pairwise_cons.1 hp).2 hs k, add_get h hm (hg p (by simp)) hs]
theorem inst_get {S : Sto} (h : S.Ok) (n : Int) (l : List Pair) {s : Int} (hs : s ≤ S.last) (k : ByteArray) : get (chainOf (inst S n l).2.ents k) s = get (chainOf S.ents k) s := by
  unfold inst
  split
  · rename_i hc
    obtain ⟨hg, rfl⟩ := hc
    obtain ⟨g1, g2⟩ := goodL_all hg
    exact addAll_get (Mid.start h l) (by have := h.fl; have := h.le; omega) g1 g2 hs k
  · rfl
theorem trim_nil (n : Int) : trim [] n = [] := by
  unfold trim
  split <;> simp
theorem chain_trims3 {E : List Ent} (hr : Rising E) (n : Int) (k : ByteArray) : chainOf (trims E n) k = trim (chainOf E k) n := by
  have hr' := trims_rising hr n
  cases hf : findK E k with
  | none =>
    rw [chainOf_none hf, trim_nil]
    cases hf' : findK (trims E n) k with
    | none => exact chainOf_none hf'
    | some e =>
      obtain ⟨he, rfl⟩ := findK_some hf'
      obtain ⟨a, ha, hea, _⟩ := trims_mem.1 he
      rw [hea] at hf
      rw [show (Ent.mk a.key (trim a.c n)).key = a.key from rfl, findK_mem hr ha] at hf
      cases hf
  | some e =>
    obtain ⟨he, rfl⟩ := findK_some hf
    rw [chainOf_mem hr he]
    by_cases hne : trim e.c n = []
    · rw [hne]
      cases hf' : findK (trims E n) e.key with
      | none => exact chainOf_none hf'
      | some e' =>
        obtain ⟨he', hk⟩ := findK_some hf'
        obtain ⟨a, ha, hea, hna⟩ := trims_mem.1 he'
        rw [hea] at hk
        have : a = e := by
          have h1 := findK_mem hr ha
          rw [show a.key = e.key from hk, hf] at h1
          injection h1 with h1; exact h1.symm
        rw [this] at hna
        exact absurd hne hna
    · exact chainOf_mem hr' (e := ⟨e.key, trim e.c n⟩) (trims_mem.2 ⟨e, he, rfl, hne⟩)
theorem coll_get {S : Sto} (h : S.Ok) {m s : Int} (hs : m ≤ s) (k : ByteArray) : get (chainOf (coll S m).2.ents k) s = get (chainOf S.ents k) s := by
  unfold coll
  split
  · rfl
  · show get (chainOf (trims S.ents m) k) s = _
    rw [chain_trims3 h.rising]
    exact get_trim (chainOf_good h.chains k) hs
theorem inst_scan {S : Sto} (h : S.Ok) (n : Int) (l : List Pair) {s : Int} (hs : s ≤ S.last) (x y : ByteArray) : scan (inst S n l).2.ents x y s = scan S.ents x y s :=
  scan_ext (inst_ok h n l).rising h.rising (fun k => inst_get h n l hs k) x y
theorem coll_scan {S : Sto} (h : S.Ok) {m s : Int} (hs : m ≤ s) (x y : ByteArray) : scan (coll S m).2.ents x y s = scan S.ents x y s :=
  scan_ext (coll_ok h m).rising h.rising (fun k => coll_get h hs k) x y
theorem inst_floor (S : Sto) (n : Int) (l : List Pair) : (inst S n l).2.floor = S.floor := by
  unfold inst; split <;> rfl
end Go.Proofs.Ytidfogcilegloaa
