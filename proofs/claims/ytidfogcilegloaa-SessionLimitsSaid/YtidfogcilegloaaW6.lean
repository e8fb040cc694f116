import Derived.Test.YtidfogcilegloaaW5
import Derived.Laws.StructEq
namespace Go.Proofs.Ytidfogcilegloaa
open Go.RowKit

theorem filter_takeWhile {l : List Ver} {last : Int} (hg : goodFrom last l = true) (n : Int) : l.filter (fun v => decide (v.at_ ≤ n)) = l.takeWhile (fun v => decide (v.at_ ≤ n)) := by
  induction l generalizing last with
  | nil => rfl
  | cons x l ih =>
    have h := hg
    simp only [goodFrom, Bool.and_eq_true, decide_eq_true_eq] at h
    rw [List.filter_cons, List.takeWhile_cons]
    by_cases hx : x.at_ ≤ n
    · simp only [hx, decide_true, if_true]
      rw [ih h.2]
    · simp only [hx, decide_false, Bool.false_eq_true, if_false]
      rw [List.filter_eq_nil_iff]
      intro v hv
      have := goodFrom_lt h.2 v hv
      simp; omega
/-- What the document's loop has found in the first k. -/
def found (l : List Ver) (n : Int) : Option Ver := (l.filter fun v => decide (v.at_ ≤ n)).getLast?
theorem found_yes {l : List Ver} {n : Int} {k : Nat} {x : Ver} (hx : l[k]? = some x) (h : x.at_ ≤ n) : found (l.take (k + 1)) n = some x := by
  unfold found
  rw [List.take_add_one, hx, List.filter_append]
  simp [h]
theorem found_no {l : List Ver} {n : Int} {k : Nat} {x : Ver} (hx : l[k]? = some x) (h : ¬ x.at_ ≤ n) : found (l.take (k + 1)) n = found (l.take k) n := by
  unfold found
  rw [List.take_add_one, hx, List.filter_append]
  simp [h]
theorem found_all {l : List Ver} {n : Int} {k : Nat} (hg : good l = true) (hk : l.length ≤ k) : found (l.take k) n = seen l n := by
  unfold found seen
  rw [List.take_of_length_le hk, filter_takeWhile hg]

end Go.Proofs.Ytidfogcilegloaa
