import Derived.Test.YtidjcdfdfbomiaaW5
/-! Runs of plans, as lists of the plans' places. -/
namespace Go.Proofs.Ytidjcdfdfbomiaa

def inc (at_ : List Nat) (i : Nat) : List Nat := match at_[i]? with
  | some a => at_.set i (a + 1)
  | none => at_
def opAt (l : List Plan) (at_ : List Nat) (i : Nat) : Option HOp := match l[i]?, at_[i]? with
  | some p, some a => p.ops[a]?
  | _, _ => none
def opsOf (l : List Plan) : List Nat → List Nat → List HOp
  | _, [] => []
  | at_, i :: is => (opAt l at_ i).toList ++ opsOf l (inc at_ i) is
/-- How many Ops are left. -/
def rest : List Plan → List Nat → Nat
  | p :: l, a :: at_ => (p.ops.length - a) + rest l at_
  | _, _ => 0
def pickOf (pk : List Int) (m : Nat) : Nat := match pk with
  | [] => 0
  | x :: _ => x.toNat % m
inductive RunRel (l : List Plan) : List Nat → List Int → List Nat → Prop
  | done {at_ : List Nat} {pk : List Int} : openL l at_ = [] → RunRel l at_ pk []
  | step {at_ : List Nat} {pk : List Int} {i : Nat} {is : List Nat} : (openL l at_)[pickOf pk (openL l at_).length]? = some i → RunRel l (inc at_ i) pk.tail is → RunRel l at_ pk (i :: is)

theorem left_get {l : List Plan} {at_ : List Nat} {i : Nat} (h : leftB l at_ i = true) : ∃ p a o, l[i]? = some p ∧ at_[i]? = some a ∧ p.ops[a]? = some o := by
  unfold leftB at h
  split at h
  · rename_i p a hp ha
    have hlt : a < p.ops.length := by simpa using h
    exact ⟨p, a, p.ops[a], hp, ha, List.getElem?_eq_getElem hlt⟩
  · cases h
theorem open_left {l : List Plan} {at_ : List Nat} {i : Nat} (h : i ∈ openL l at_) : leftB l at_ i = true := (List.mem_filter.1 h).2
theorem inc_eq {at_ : List Nat} {i a : Nat} (h : at_[i]? = some a) : inc at_ i = at_.set i (a + 1) := by rw [inc, h]
theorem opAt_eq {l : List Plan} {at_ : List Nat} {i a : Nat} {p : Plan} {o : HOp} (hp : l[i]? = some p) (ha : at_[i]? = some a) (ho : p.ops[a]? = some o) : opAt l at_ i = some o := by rw [opAt, hp, ha]; exact ho
theorem rest_inc : ∀ {l : List Plan} {at_ : List Nat} {i a : Nat} {p : Plan}, l[i]? = some p → at_[i]? = some a → a < p.ops.length → rest l (at_.set i (a + 1)) + 1 = rest l at_
  | [], _, _, _, _, h, _, _ => by simp at h
  | _ :: _, [], _, _, _, _, h, _ => by simp at h
  | q :: l, b :: at_, 0, a, p, hp, ha, hlt => by
    simp at hp ha
    subst hp ha
    rw [List.set_cons_zero, rest, rest]; omega
  | q :: l, b :: at_, i + 1, a, p, hp, ha, hlt => by
    have := rest_inc (l := l) (at_ := at_) (i := i) (by simpa using hp) (by simpa using ha) hlt
    rw [List.set_cons_succ, rest, rest]; omega
theorem rest_le : ∀ {l : List Plan} {at_ : List Nat}, (∀ p ∈ l, p.ops.length ≤ 200) → rest l at_ ≤ l.length * 200
  | [], _, _ => by simp [rest]
  | p :: l, [], _ => by simp [rest]
  | p :: l, a :: at_, h => by
    have h1 := rest_le (l := l) (at_ := at_) fun q hq => h q (List.mem_cons_of_mem _ hq)
    have h2 := h p List.mem_cons_self
    rw [rest, List.length_cons]; omega
def lenOf : Value → Nat
  | .slice _ n _ => n
  | _ => 0
end Go.Proofs.Ytidjcdfdfbomiaa
