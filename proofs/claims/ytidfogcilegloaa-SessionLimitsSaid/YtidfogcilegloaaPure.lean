/-!
  The plain law of chains: what the calls of layer 7 compute, as functions of lists.
-/
namespace Go.Proofs.Ytidfogcilegloaa

structure Ver where
  at_ : Int
  val : ByteArray
  dead : Bool

def Ver.zero : Ver := ⟨0, ⟨#[]⟩, false⟩
def Ver.right (v : Ver) : Bool := !v.dead || v.val.toList.isEmpty
def goodFrom (last : Int) : List Ver → Bool
  | [] => true
  | v :: l => decide (last < v.at_) && v.right && goodFrom v.at_ l
def good (l : List Ver) : Bool := goodFrom 0 l
def upTo (l : List Ver) (n : Int) : Nat := (l.takeWhile fun v => decide (v.at_ ≤ n)).length
/-- The version that is seen at a snapshot. -/
def seen (l : List Ver) (n : Int) : Option Ver := (l.takeWhile fun v => decide (v.at_ ≤ n)).getLast?
def live : Option Ver → Option Ver
  | some v => if v.dead then none else some v
  | none => none
def get (l : List Ver) (n : Int) : Option Ver := if good l then live (seen l n) else none
def lastOf (l : List Ver) : Int := if good l then (l.getLast?.map Ver.at_).getD 0 else 0
def since (l : List Ver) (n : Int) : Nat := if good l then l.length - upTo l n else 0
def trimAt (l : List Ver) (n : Int) : Nat := if (live (seen l n)).isSome then upTo l n - 1 else upTo l n
def trim (l : List Ver) (n : Int) : List Ver := if good l then l.drop (trimAt l n) else []
def cut (l : List Ver) (n : Int) : List Ver := if good l then l.take (upTo l n) else []
def canPut (l : List Ver) (v : Ver) : Bool := good l && decide (lastOf l < v.at_) && v.right
def put (l : List Ver) (v : Ver) : List Ver := if canPut l v then l ++ [v] else l

theorem upTo_le (l : List Ver) (n : Int) : upTo l n ≤ l.length := by
  unfold upTo
  exact (List.takeWhile_prefix _).length_le

/-- In versions that may be, places rise. -/
theorem goodFrom_lt : ∀ {l : List Ver} {last : Int}, goodFrom last l = true → ∀ v ∈ l, last < v.at_
  | [], _, _, v, hv => by cases hv
  | x :: l, last, h, v, hv => by
    simp only [goodFrom, Bool.and_eq_true, decide_eq_true_eq] at h
    rcases List.mem_cons.1 hv with rfl | hv
    · exact h.1.1
    · have := goodFrom_lt h.2 v hv; omega
theorem goodFrom_mono : ∀ {l : List Ver} {a b : Int}, b ≤ a → goodFrom a l = true → goodFrom b l = true
  | [], _, _, _, _ => rfl
  | x :: l, a, b, hab, h => by
    simp only [goodFrom, Bool.and_eq_true, decide_eq_true_eq] at h ⊢
    exact ⟨⟨by omega, h.1.2⟩, h.2⟩
theorem goodFrom_sorted : ∀ {l : List Ver} {last : Int}, goodFrom last l = true → l.Pairwise (fun a b => a.at_ < b.at_)
  | [], _, _ => .nil
  | x :: l, last, h => by
    have h0 := h
    simp only [goodFrom, Bool.and_eq_true, decide_eq_true_eq] at h
    exact .cons (goodFrom_lt h.2) (goodFrom_sorted h.2)
/-- What stands ahead of a place is just what the test says. -/
theorem upTo_spec {l : List Ver} {last n : Int} (h : goodFrom last l = true) {i : Nat} {v : Ver} (hi : l[i]? = some v) : v.at_ ≤ n ↔ i < upTo l n := by
  induction l generalizing i last with
  | nil => simp at hi
  | cons x l ih =>
    have h0 := h
    simp only [goodFrom, Bool.and_eq_true, decide_eq_true_eq] at h
    unfold upTo
    rw [List.takeWhile_cons]
    by_cases hx : x.at_ ≤ n
    · simp only [hx, decide_true, if_true, List.length_cons]
      cases i with
      | zero => simp at hi; subst hi; simp [hx]
      | succ i =>
        have := ih h.2 (by simpa using hi)
        unfold upTo at this
        omega
    · simp only [hx, decide_false, Bool.false_eq_true, if_false, List.length_nil, Nat.not_lt_zero, iff_false, Int.not_le]
      cases i with
      | zero => simp at hi; subst hi; omega
      | succ i =>
        have := goodFrom_lt h.2 v (List.mem_of_getElem? (by simpa using hi))
        omega
theorem seen_eq (l : List Ver) (n : Int) : seen l n = if upTo l n = 0 then none else l[upTo l n - 1]? := by
  unfold seen
  rw [List.getLast?_eq_getElem?]
  have hp : l.takeWhile (fun v => decide (v.at_ ≤ n)) <+: l := List.takeWhile_prefix _
  obtain ⟨m, hm⟩ := hp
  by_cases h : upTo l n = 0
  · have : l.takeWhile (fun v => decide (v.at_ ≤ n)) = [] := List.eq_nil_of_length_eq_zero h
    rw [this, if_pos h]; rfl
  · rw [if_neg h]
    have hl : (l.takeWhile fun v => decide (v.at_ ≤ n)).length = upTo l n := rfl
    have e := congrArg (fun z : List Ver => z[upTo l n - 1]?) hm
    rw [List.getElem?_append_left (by omega)] at e
    rw [hl]; exact e
end Go.Proofs.Ytidfogcilegloaa
