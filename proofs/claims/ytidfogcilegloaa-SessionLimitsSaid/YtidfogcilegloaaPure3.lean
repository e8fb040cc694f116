import Derived.Test.YtidfogcilegloaaPure2
/-! The plain law of a put version: what is put is told from then on, and nothing changes ahead of it. -/
namespace Go.Proofs.Ytidfogcilegloaa

theorem goodFrom_snoc : ∀ {l : List Ver} {a : Int} {v : Ver}, goodFrom a (l ++ [v]) = (goodFrom a l && decide ((l.getLast?.map Ver.at_).getD a < v.at_) && v.right)
  | [], a, v => by
    show (decide (a < v.at_) && v.right && true) = (true && decide (a < v.at_) && v.right)
    rw [Bool.and_true, Bool.true_and]
  | x :: l, a, v => by
    have ih := goodFrom_snoc (l := l) (a := x.at_) (v := v)
    simp only [List.cons_append, goodFrom, ih]
    have e : ((x :: l).getLast?.map Ver.at_).getD a = (l.getLast?.map Ver.at_).getD x.at_ := by
      cases l with
      | nil => rfl
      | cons y l => rw [List.getLast?_cons_cons]; cases h : (y :: l).getLast? with
        | none => simp at h
        | some z => rfl
    rw [e]
    simp only [Bool.and_assoc]
theorem good_snoc {l : List Ver} {v : Ver} (h : canPut l v = true) : good (l ++ [v]) = true := by
  simp only [canPut, Bool.and_eq_true, decide_eq_true_eq] at h
  obtain ⟨⟨hg, hl⟩, hr⟩ := h
  unfold good
  rw [goodFrom_snoc, show goodFrom 0 l = true from hg, hr]
  simp only [lastOf, hg, if_true] at hl
  simp [hl]
theorem put_yes {l : List Ver} {v : Ver} (h : canPut l v = true) : put l v = l ++ [v] := by simp [put, h]
theorem good_of_canPut {l : List Ver} {v : Ver} (h : canPut l v = true) : good l = true := by
  simp only [canPut, Bool.and_eq_true] at h; exact h.1.1
theorem lastOf_snoc {l : List Ver} {v : Ver} (h : canPut l v = true) : lastOf (l ++ [v]) = v.at_ := by
  simp [lastOf, good_snoc h]
theorem at_le_last {l : List Ver} (hg : good l = true) {x : Ver} (hx : x ∈ l) : x.at_ ≤ lastOf l := by
  have hs := goodFrom_sorted hg
  simp only [lastOf, hg, if_true]
  rcases List.eq_nil_or_concat l with rfl | ⟨l', z, rfl⟩
  · cases hx
  · simp only [List.concat_eq_append] at *
    rw [List.getLast?_concat]
    show x.at_ ≤ z.at_
    rcases List.mem_append.1 hx with h | h
    · have := (List.pairwise_append.1 hs).2.2 x h z (by simp); omega
    · simp at h; subst h; omega
theorem upTo_all {l : List Ver} {n : Int} (h : ∀ x ∈ l, x.at_ ≤ n) : l.takeWhile (fun v => decide (v.at_ ≤ n)) = l := by
  induction l with
  | nil => rfl
  | cons x l ih => rw [List.takeWhile_cons, if_pos (decide_eq_true (h x (by simp))), ih fun y hy => h y (by simp [hy])]
theorem get_put {l : List Ver} {v : Ver} (h : canPut l v = true) : get (l ++ [v]) v.at_ = live (some v) := by
  have hg := good_of_canPut h
  have hlt : lastOf l < v.at_ := by simp only [canPut, Bool.and_eq_true, decide_eq_true_eq] at h; exact h.1.2
  simp only [get, good_snoc h, if_true, seen]
  rw [upTo_all]
  · simp
  · intro x hx
    rcases List.mem_append.1 hx with hx | hx
    · have := at_le_last hg hx; omega
    · simp at hx; subst hx; omega
theorem takeWhile_snoc {l : List Ver} {v : Ver} {n : Int} (h : n < v.at_) : (l ++ [v]).takeWhile (fun x => decide (x.at_ ≤ n)) = l.takeWhile (fun x => decide (x.at_ ≤ n)) := by
  induction l with
  | nil => rw [List.nil_append, List.takeWhile_cons, show decide (v.at_ ≤ n) = false from decide_eq_false (by omega)]; rfl
  | cons x l ih => simp only [List.cons_append, List.takeWhile_cons, ih]
theorem get_put_ahead {l : List Ver} {v : Ver} {n : Int} (h : canPut l v = true) (hn : n < v.at_) : get (l ++ [v]) n = get l n := by
  simp only [get, good_snoc h, good_of_canPut h, if_true, seen, takeWhile_snoc hn]
theorem cut_put {l : List Ver} {v : Ver} (h : canPut l v = true) : cut (l ++ [v]) (lastOf l) = l := by
  have hg := good_of_canPut h
  have hlt : lastOf l < v.at_ := by simp only [canPut, Bool.and_eq_true, decide_eq_true_eq] at h; exact h.1.2
  have e : upTo (l ++ [v]) (lastOf l) = l.length := by
    unfold upTo; rw [takeWhile_snoc hlt, upTo_all fun x hx => at_le_last hg hx]
  simp only [cut, good_snoc h, if_true, e]
  simp
end Go.Proofs.Ytidfogcilegloaa
