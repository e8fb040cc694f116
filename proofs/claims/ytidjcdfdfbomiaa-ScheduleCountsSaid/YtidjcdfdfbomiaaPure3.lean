import Derived.Test.YtidjcdfdfbomiaaW3
/-! How many orders there are: the law of numbers behind Count. -/
namespace Go.Proofs.Ytidjcdfdfbomiaa

/-- In how many ways k of n can be chosen. -/
def bin : Nat → Nat → Nat
  | _, 0 => 1
  | 0, _ + 1 => 0
  | n + 1, k + 1 => bin n k + bin n (k + 1)
def fac : Nat → Nat
  | 0 => 1
  | n + 1 => (n + 1) * fac n
theorem fac_pos : ∀ n, 0 < fac n
  | 0 => by decide
  | n + 1 => Nat.mul_pos (by omega) (fac_pos n)
theorem bin_zero (n : Nat) : bin n 0 = 1 := by cases n <;> rfl
theorem bin_over : ∀ {n k : Nat}, n < k → bin n k = 0
  | 0, k + 1, _ => rfl
  | n + 1, k + 1, h => by rw [bin, bin_over (show n < k by omega), bin_over (show n < k + 1 by omega)]
  | _, 0, h => by omega
theorem bin_absorb : ∀ (n k : Nat), (n + 1) * bin n k = bin (n + 1) (k + 1) * (k + 1)
  | 0, 0 => by decide
  | 0, k + 1 => by rw [bin, bin, bin, bin_over (by omega)]; simp
  | n + 1, 0 => by
    have h := bin_absorb n 0
    rw [bin_zero] at h
    rw [bin_zero, bin, bin_zero]
    omega
  | n + 1, k + 1 => by
    have h1 := bin_absorb n k
    have h2 := bin_absorb n (k + 1)
    rw [show bin (n + 1 + 1) (k + 1 + 1) = bin (n + 1) (k + 1) + bin (n + 1) (k + 1 + 1) from rfl, Nat.add_mul (bin (n + 1) (k + 1)), ← h2]
    have e : bin (n + 1) (k + 1) = bin n k + bin n (k + 1) := rfl
    have e2 : bin (n + 1) (k + 1) * (k + 1 + 1) = (n + 1) * bin n k + bin (n + 1) (k + 1) := by rw [Nat.mul_succ, ← h1]
    rw [e2, Nat.succ_mul (n + 1), show (n + 1) * bin (n + 1) (k + 1) = (n + 1) * bin n k + (n + 1) * bin n (k + 1) by rw [e, Nat.mul_add]]
    omega
theorem bin_fac : ∀ (m k : Nat), bin (m + k) k * (fac k * fac m) = fac (m + k)
  | m, 0 => by rw [bin_zero]; simp [fac]
  | m, k + 1 => by
    have h := bin_absorb (m + k) k
    have ih := bin_fac m k
    rw [show m + (k + 1) = m + k + 1 by omega, fac, fac, ← ih]
    calc bin (m + k + 1) (k + 1) * ((k + 1) * fac k * fac m) = (bin (m + k + 1) (k + 1) * (k + 1)) * (fac k * fac m) := by rw [Nat.mul_assoc (k + 1), ← Nat.mul_assoc]
      _ = (m + k + 1) * (bin (m + k) k * (fac k * fac m)) := by rw [← h, Nat.mul_assoc]
theorem bin_sym (m k : Nat) : bin (m + k) k = bin (m + k) m := by
  have h1 := bin_fac m k
  have h2 := bin_fac k m
  rw [Nat.add_comm k m, Nat.mul_comm (fac m)] at h2
  have hp : 0 < fac k * fac m := Nat.mul_pos (fac_pos k) (fac_pos m)
  exact Nat.eq_of_mul_eq_mul_right hp (h1.trans h2.symm)
theorem bin_pos : ∀ (m k : Nat), 0 < bin (m + k) k
  | m, 0 => by rw [bin_zero]; omega
  | m, k + 1 => by rw [show m + (k + 1) = (m + k) + 1 by omega, bin]; have := bin_pos m k; omega
theorem bin_step (m i : Nat) : bin (m + i) i * (m + (i + 1)) / (i + 1) = bin (m + (i + 1)) (i + 1) := by
  have h := bin_absorb (m + i) i
  rw [Nat.mul_comm, show m + (i + 1) = m + i + 1 by omega, h]
  exact Nat.mul_div_cancel _ (by omega)
theorem bin_mono (m i : Nat) : bin (m + i) i ≤ bin (m + (i + 1)) (i + 1) := by
  rw [show m + (i + 1) = (m + i) + 1 by omega, bin]; omega
theorem bin_mono_le (m i : Nat) : ∀ j, bin (m + i) i ≤ bin (m + (i + j)) (i + j)
  | 0 => Nat.le_refl _
  | j + 1 => Nat.le_trans (bin_mono_le m i j) (bin_mono m (i + j))

/-- What the loop tells. -/
theorem chooseGo_bin (m k most : Nat) : ∀ (s i : Nat), i + s = k → chooseGo (m + k) k most s (i + 1) (bin (m + i) i) = min (bin (m + k) k) most
  | 0, i, h => by
    obtain rfl : i = k := by omega
    rw [chooseGo]
  | s + 1, i, h => by
    rw [chooseGo, show m + k - k + (i + 1) = m + (i + 1) by omega, bin_step]
    split
    · rename_i hm
      have := bin_mono_le m (i + 1) s
      rw [show i + 1 + s = k by omega] at this
      omega
    · exact chooseGo_bin m k most s (i + 1) (by omega)
theorem choose_bin {n k : Nat} (hk : k ≤ n) (most : Nat) : chooseV n k most = min (bin n k) most := by
  obtain ⟨m, rfl⟩ : ∃ m, n = m + k := ⟨n - k, by omega⟩
  have := chooseGo_bin m k most k 0 (by omega)
  rwa [bin_zero] at this
theorem choose_min (s k most : Nat) : chooseV (s + k) (min k s) most = min (bin (s + k) k) most := by
  rw [choose_bin (by omega)]
  rcases Nat.le_total k s with h | h
  · rw [Nat.min_eq_left h]
  · rw [Nat.min_eq_right h, bin_sym]

/-- In how many orders some numbers of things may stand, s of which stand already. -/
def multi : Nat → List Nat → Nat
  | _, [] => 1
  | s, k :: l => bin (s + k) k * multi (s + k) l
theorem multi_pos : ∀ (l : List Nat) (s : Nat), 0 < multi s l
  | [], _ => Nat.one_pos
  | k :: l, s => Nat.mul_pos (bin_pos s k) (multi_pos l (s + k))
theorem countGo_multi (most : Nat) (hm : 1 ≤ most) : ∀ (l : List Plan) (s c t : Nat), 1 ≤ t → c = min t most → countGo most s c l = min (t * multi s (l.map fun p => p.ops.length)) most
  | [], s, c, t, ht, hc => by rw [countGo, List.map_nil, multi, Nat.mul_one]; omega
  | p :: l, s, c, t, ht, hc => by
    have hc1 : 1 ≤ c := by omega
    have hB := bin_pos s p.ops.length
    have hR := multi_pos (l.map fun p => p.ops.length) (s + p.ops.length)
    rw [countGo, choose_min, List.map_cons, multi]
    generalize bin (s + p.ops.length) p.ops.length = B at *
    have e : t * (B * multi (s + p.ops.length) (l.map fun p => p.ops.length)) = (t * B) * multi (s + p.ops.length) (l.map fun p => p.ops.length) := (Nat.mul_assoc _ _ _).symm
    rw [e]
    have hct : c ≤ t := by omega
    have htB : t * 1 ≤ t * B := Nat.mul_le_mul_left t hB
    have hlast : t * B * 1 ≤ t * B * multi (s + p.ops.length) (l.map fun p => p.ops.length) := Nat.mul_le_mul_left _ hR
    split
    · rename_i hw
      have h1 : most < c * min B most := by
        have h2 := Nat.div_add_mod most c
        have h3 := Nat.mod_lt most hc1
        have h4 : c * (most / c + 1) ≤ c * min B most := Nat.mul_le_mul_left c hw
        rw [Nat.mul_succ] at h4
        omega
      have h5 : c * min B most ≤ t * B := Nat.mul_le_mul hct (Nat.min_le_left _ _)
      omega
    · rename_i hw
      refine countGo_multi most hm l (s + p.ops.length) _ (t * B) (by omega) ?_
      have hw2 : c * min B most ≤ most := Nat.le_trans (Nat.mul_le_mul_left c (Nat.le_of_not_lt hw)) (Nat.mul_div_le most c)
      rcases Nat.lt_or_ge most t with h | h
      · have hcm : c = most := by omega
        have : most * 1 ≤ c * min B most := by rw [hcm]; exact Nat.mul_le_mul_left most (by omega)
        omega
      · have hct' : c = t := by omega
        rw [hct'] at hw2 ⊢
        rcases Nat.lt_or_ge most B with h6 | h6
        · rw [Nat.min_eq_right (by omega)] at hw2 ⊢
          have : 1 * most ≤ t * most := Nat.mul_le_mul_right most ht
          have : t * most ≤ t * B := Nat.mul_le_mul_left t (by omega)
          omega
        · rw [Nat.min_eq_left h6] at hw2 ⊢
          omega
theorem countV_multi {l : List Plan} (hg : good l = true) {most : Nat} (hm : 1 ≤ most) : countV l (most : Int) = min (multi 0 (l.map fun p => p.ops.length)) most := by
  rw [countV, hg, decide_eq_true (by omega)]
  have := countGo_multi most hm l 0 1 1 (by omega) (by omega)
  rw [Nat.one_mul] at this
  simpa using this
/-- All of them, over what they are among themselves. -/
theorem multi_fac : ∀ (l : List Nat) (s : Nat), multi s l * (fac s * (l.map fac).foldr (· * ·) 1) = fac (s + l.sum)
  | [], s => by simp [multi]
  | k :: l, s => by
    have ih := multi_fac l (s + k)
    have hb := bin_fac s k
    rw [multi, List.map_cons, List.foldr_cons, List.sum_cons, ← Nat.add_assoc, ← ih, ← hb]
    generalize (l.map fac).foldr (· * ·) 1 = F
    generalize multi (s + k) l = M
    generalize bin (s + k) k = B
    generalize fac s = X
    generalize fac k = Y
    simp only [Nat.mul_comm, Nat.mul_left_comm]
end Go.Proofs.Ytidjcdfdfbomiaa
