import Derived.Test.YtnleldogmogkgaaSto
import Derived.Test.YtnleldogmogkgaaPure3
/-! Of a store's ranges: plain law. -/
namespace Go.Proofs.Ytnleldogmogkgaa
open Go.Op (bytesLess)

theorem bl_zero : ∀ (y x : List UInt8), bytesLess x (y ++ [0]) = !bytesLess y x
  | [], [] => rfl
  | [], a :: x => by simp [bytesLess]
  | b :: y, [] => rfl
  | b :: y, a :: x => by
    have ih := bl_zero y x
    simp only [List.cons_append, bytesLess, ih]
    rcases Nat.lt_trichotomy a.toNat b.toNat with h | h | h
    · have h1 : a < b := UInt8.lt_iff_toNat_lt.2 h
      have h2 : ¬ b < a := fun k => by have := UInt8.lt_iff_toNat_lt.1 k; omega
      have h3 : ¬ b = a := fun e => by subst e; omega
      simp [h1, h2, h3]
    · have : a = b := UInt8.toNat_inj.1 h
      subst this
      simp
    · have h1 : b < a := UInt8.lt_iff_toNat_lt.2 h
      have h2 : ¬ a < b := fun k => by have := UInt8.lt_iff_toNat_lt.1 k; omega
      have h3 : ¬ a = b := fun e => by subst e; omega
      simp [h1, h2, h3]
theorem toList_app (x y : ByteArray) : (x ++ y).toList = x.toList ++ y.toList := by
  rw [ByteArray.toList_eq, ByteArray.toList_eq, ByteArray.toList_eq, ByteArray.data_append, Array.toList_append]
theorem klt_zero (k x : ByteArray) : klt x (k ++ ⟨#[0]⟩) = !klt k x := by
  unfold klt
  rw [toList_app, show (⟨#[0]⟩ : ByteArray).toList = [0] by rw [ByteArray.toList_eq]]
  exact bl_zero _ _
theorem inR_point (k x : ByteArray) : inR k (k ++ ⟨#[0]⟩) x = decide (x = k) := by
  rw [inR, klt_zero]
  rcases klt_cases x k with ⟨h1, h2, h3⟩ | ⟨h1, h2, h3⟩ | ⟨h1, h2, h3⟩
  · rw [h1, h2, decide_eq_false h3]; rfl
  · rw [h2, h3, decide_eq_true h1]; rfl
  · rw [h1, h2, decide_eq_false h3]; rfl
theorem since_nil (n : Int) : since [] n = 0 := by
  unfold since
  split <;> simp
theorem wrote_point {E : List Ent} (hr : Rising E) (k : ByteArray) (n : Int) : wrote E k n = within E k (k ++ ⟨#[0]⟩) n := by
  unfold wrote within
  rw [Bool.eq_iff_iff, List.any_eq_true]
  constructor
  · intro h
    rw [decide_eq_true_eq, chainOf] at h
    cases hf : findK E k with
    | none => rw [hf] at h; simp [since_nil] at h
    | some e =>
      rw [hf] at h
      obtain ⟨he, rfl⟩ := findK_some hf
      exact ⟨e, he, by rw [inR_point]; simpa using h⟩
  · rintro ⟨e, he, h⟩
    rw [inR_point, Bool.and_eq_true, decide_eq_true_eq] at h
    obtain ⟨rfl, h⟩ := h
    rw [chainOf_mem hr he]; exact h
theorem inR_split {a m b : ByteArray} (h1 : klt m a = false) (h2 : klt b m = false) (k : ByteArray) : inR a b k = (inR a m k || inR m b k) := by
  unfold inR
  cases hkm : klt k m
  · have : klt k a = false := by
      cases h : klt k a
      · rfl
      · -- k < a ≤ m
        rcases klt_cases a m with ⟨g, _, _⟩ | ⟨rfl, _, _⟩ | ⟨_, g, _⟩
        · have := klt_trans h g; rw [hkm] at this; cases this
        · rw [hkm] at h; cases h
        · rw [h1] at g; cases g
    simp [this]
  · have : klt k b = true := by
      rcases klt_cases m b with ⟨g, _, _⟩ | ⟨rfl, _, _⟩ | ⟨_, g, _⟩
      · exact klt_trans hkm g
      · exact hkm
      · rw [h2] at g; cases g
    simp [this]
theorem within_split {E : List Ent} {a m b : ByteArray} (h1 : klt m a = false) (h2 : klt b m = false) (n : Int) : within E a b n = (within E a m n || within E m b n) := by
  unfold within
  induction E with
  | nil => rfl
  | cons e E ih =>
    rw [List.any_cons, List.any_cons, List.any_cons, ih, inR_split h1 h2]
    cases inR a m e.key <;> cases inR m b e.key <;> cases decide (0 < since e.c n) <;> simp
theorem since_last {l : List Ver} {n : Int} (h : ∀ v ∈ l, v.at_ ≤ n) : since l n = 0 := by
  unfold since upTo
  split
  · have : (l.takeWhile fun v => decide (v.at_ ≤ n)) = l := by
      have := List.takeWhile_append_of_pos (p := fun v : Ver => decide (v.at_ ≤ n)) (l₁ := l) (l₂ := []) fun v hv => by simpa using h v hv
      simpa using this
    rw [this]; omega
  · rfl
theorem within_last {S : Sto} (h : S.Ok) (a b : ByteArray) {n : Int} (hn : S.last ≤ n) : within S.ents a b n = false := by
  unfold within
  rw [List.any_eq_false]
  intro e he
  rw [since_last fun v hv => Int.le_trans ((h.chains e he).2.2.1 v hv) hn]
  simp
end Go.Proofs.Ytnleldogmogkgaa
