import Derived.Test.YtidjcdfdfbomiaaPure3
import Derived.Test.YtidjcdfdfbomiaaPure2
/-! All orders, one behind the other, and how many there are. -/
namespace Go.Proofs.Ytidjcdfdfbomiaa

def prodFac (r : List Nat) : Nat := (r.map fac).foldr (· * ·) 1
theorem prodFac_pos : ∀ r, 0 < prodFac r
  | [] => Nat.one_pos
  | k :: r => Nat.mul_pos (fac_pos k) (prodFac_pos r)
theorem prodFac_dec : ∀ {r : List Nat} {i k : Nat}, r[i]? = some (k + 1) → prodFac r = (k + 1) * prodFac (r.set i k)
  | [], _, _, h => by simp at h
  | a :: r, 0, k, h => by
    have e : a = k + 1 := by simpa using h
    subst e
    show fac (k + 1) * prodFac r = (k + 1) * (fac k * prodFac r)
    rw [fac, Nat.mul_assoc]
  | a :: r, i + 1, k, h => by
    have ih := prodFac_dec (r := r) (i := i) (k := k) (by simpa using h)
    show fac a * prodFac r = (k + 1) * (fac a * prodFac (r.set i k))
    rw [ih, Nat.mul_left_comm]
theorem sum_dec : ∀ {r : List Nat} {i k : Nat}, r[i]? = some (k + 1) → r.sum = (r.set i k).sum + 1
  | [], _, _, h => by simp at h
  | a :: r, 0, k, h => by
    have e : a = k + 1 := by simpa using h
    subst e
    simp; omega
  | a :: r, i + 1, k, h => by
    have ih := sum_dec (r := r) (i := i) (k := k) (by simpa using h)
    simp only [List.sum_cons, List.set_cons_succ]; omega

/-- In how many ways what is left can be done. -/
def cnt : Nat → List Nat → Nat
  | 0, _ => 1
  | f + 1, r => ((List.range r.length).map fun i => match r[i]? with
    | some (k + 1) => cnt f (r.set i k)
    | _ => 0).sum
theorem sum_map_mul (g : Nat → Nat) (c : Nat) : ∀ l : List Nat, (l.map g).sum * c = (l.map fun i => g i * c).sum
  | [] => by simp
  | i :: l => by simp only [List.map_cons, List.sum_cons, Nat.add_mul, sum_map_mul g c l]
theorem sum_range_get : ∀ (r : List Nat) (c : Nat), ((List.range r.length).map fun i => (match r[i]? with | some k => k | none => 0) * c).sum = r.sum * c
  | [], c => by simp
  | a :: r, c => by
    rw [List.length_cons, List.range_succ_eq_map, List.map_cons, List.map_map, List.sum_cons, List.sum_cons, Nat.add_mul, ← sum_range_get r c]
    rfl
theorem le_sum_mem : ∀ {r : List Nat} {k : Nat}, k ∈ r → k ≤ r.sum
  | a :: r, k, h => by
    rw [List.sum_cons]
    rcases List.mem_cons.1 h with rfl | h
    · omega
    · have := le_sum_mem h; omega
theorem cnt_fac : ∀ (f : Nat) (r : List Nat), r.sum = f → cnt f r * prodFac r = fac f
  | 0, r, h => by
    have hz : ∀ k ∈ r, k = 0 := fun k hk => by have := le_sum_mem hk; omega
    have : prodFac r = 1 := by
      clear h
      induction r with
      | nil => rfl
      | cons a r ih =>
        have ha : a = 0 := hz a List.mem_cons_self
        show fac a * prodFac r = 1
        rw [ih fun k hk => hz k (List.mem_cons_of_mem _ hk), ha]; rfl
    rw [this]; rfl
  | f + 1, r, h => by
    rw [cnt, sum_map_mul, fac, ← h, ← sum_range_get r (fac f)]
    congr 1
    apply List.map_congr_left
    intro i _
    cases hi : r[i]? with
    | none => simp
    | some k =>
      cases k with
      | zero => simp
      | succ k =>
        show cnt f (r.set i k) * prodFac r = (k + 1) * fac f
        have hs := sum_dec hi
        rw [prodFac_dec hi, ← cnt_fac f (r.set i k) (by omega), Nat.mul_left_comm]
theorem cnt_multi (r : List Nat) : cnt r.sum r = multi 0 r := by
  have h1 := cnt_fac r.sum r rfl
  have h2 := multi_fac r 0
  rw [Nat.zero_add, show fac 0 = 1 from rfl, Nat.one_mul] at h2
  exact Nat.eq_of_mul_eq_mul_right (prodFac_pos r) (h1.trans h2.symm)

/-- What each plan has left. -/
def rvec (l : List Plan) (at_ : List Nat) : List Nat := List.zipWith (fun p a => p.ops.length - a) l at_
theorem rvec_sum : ∀ (l : List Plan) (at_ : List Nat), (rvec l at_).sum = rest l at_
  | [], _ => by simp [rvec, rest]
  | p :: l, [] => by simp [rvec, rest]
  | p :: l, a :: at_ => by
    have := rvec_sum l at_
    simp only [rvec, List.zipWith_cons_cons, List.sum_cons, rest] at this ⊢
    omega
theorem rvec_zero (l : List Plan) : rvec l (List.replicate l.length 0) = l.map fun p => p.ops.length := by
  induction l with
  | nil => rfl
  | cons p l ih =>
    simp only [rvec, List.length_cons, List.replicate_succ, List.zipWith_cons_cons, List.map_cons, Nat.sub_zero] at ih ⊢
    rw [ih]
theorem rvec_get {l : List Plan} {at_ : List Nat} {i : Nat} {p : Plan} {a : Nat} (hp : l[i]? = some p) (ha : at_[i]? = some a) : (rvec l at_)[i]? = some (p.ops.length - a) := by
  rw [rvec, List.getElem?_zipWith, hp, ha]
theorem rvec_set : ∀ {l : List Plan} {at_ : List Nat} {i : Nat} {p : Plan} {b : Nat}, l[i]? = some p → rvec l (at_.set i b) = (rvec l at_).set i (p.ops.length - b)
  | [], _, _, _, _, h => by simp at h
  | q :: l, [], i, _, _, _ => by simp [rvec]
  | q :: l, a :: at_, 0, p, b, h => by
    have e : q = p := by simpa using h
    subst e; rfl
  | q :: l, a :: at_, i + 1, p, b, h => by
    have := rvec_set (l := l) (at_ := at_) (i := i) (p := p) (b := b) (by simpa using h)
    simp only [rvec, List.set_cons_succ, List.zipWith_cons_cons] at this ⊢
    rw [this]

/-- The places picked in all orders of what is left, one behind the other. -/
def full (l : List Plan) : Nat → List Nat → List (List Int)
  | 0, _ => [[]]
  | f + 1, at_ => (openL l at_).zipIdx.flatMap fun x => (full l f (inc at_ x.1)).map fun t => (x.2 : Int) :: t
theorem sum_filter (q : Nat → Bool) (g : Nat → Nat) : ∀ l : List Nat, ((l.filter q).map g).sum = (l.map fun i => if q i then g i else 0).sum
  | [] => rfl
  | i :: l => by
    rw [List.map_cons, List.sum_cons, ← sum_filter q g l]
    by_cases h : q i = true
    · rw [List.filter_cons_of_pos h, if_pos h, List.map_cons, List.sum_cons]
    · rw [List.filter_cons_of_neg h, if_neg h, Nat.zero_add]
theorem zip_fst {β : Type} (g : Nat → β) (l : List Nat) (k : Nat) : (l.zipIdx k).map (fun x => g x.1) = l.map g := by
  induction l generalizing k with
  | nil => rfl
  | cons a l ih => rw [List.zipIdx_cons, List.map_cons, List.map_cons, ih]
theorem full_len (l : List Plan) : ∀ (f : Nat) (at_ : List Nat), at_.length = l.length → rest l at_ = f → (full l f at_).length = cnt f (rvec l at_)
  | 0, _, _, _ => rfl
  | f + 1, at_, hl, hr => by
    rw [full, cnt, List.length_flatMap]
    have e1 : ((openL l at_).zipIdx.map fun x => ((full l f (inc at_ x.1)).map fun t => (x.2 : Int) :: t).length) = (openL l at_).map fun i => (full l f (inc at_ i)).length := by
      rw [← zip_fst (fun i => (full l f (inc at_ i)).length) (openL l at_) 0]
      apply List.map_congr_left
      intro x _
      rw [List.length_map]
    rw [e1, openL, sum_filter]
    have e2 : (rvec l at_).length = l.length := by rw [rvec, List.length_zipWith]; omega
    rw [e2]
    congr 1
    apply List.map_congr_left
    intro i hi
    have hi' := List.mem_range.1 hi
    have hp : l[i]? = some l[i] := List.getElem?_eq_getElem hi'
    have ha : at_[i]? = some at_[i] := List.getElem?_eq_getElem (by omega)
    rw [rvec_get hp ha, left_some hp ha]
    by_cases h : at_[i] < l[i].ops.length
    · rw [if_pos (decide_eq_true h)]
      obtain ⟨k, hk⟩ : ∃ k, l[i].ops.length - at_[i] = k + 1 := ⟨l[i].ops.length - at_[i] - 1, by omega⟩
      rw [hk]
      have hri := rest_inc hp ha h
      rw [inc_eq ha, full_len l f _ (by rw [List.length_set]; exact hl) (by omega), rvec_set hp, show l[i].ops.length - (at_[i] + 1) = k by omega]
    · rw [if_neg (by simpa using h), show l[i].ops.length - at_[i] = 0 by omega]
/-- There are as many orders as Count's number. -/
theorem full_count {l : List Plan} (hg : good l = true) {most : Nat} (hm : 1 ≤ most) : countV l (most : Int) = min (full l (rest l (List.replicate l.length 0)) (List.replicate l.length 0)).length most := by
  rw [countV_multi hg hm, full_len l _ _ (by simp) rfl, ← rvec_sum, cnt_multi, rvec_zero]
end Go.Proofs.Ytidjcdfdfbomiaa
