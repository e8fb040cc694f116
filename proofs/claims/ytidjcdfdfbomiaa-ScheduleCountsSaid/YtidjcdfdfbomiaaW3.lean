import Derived.Test.YtidjcdfdfbomiaaW2
import Derived.Laws.Bits64b
/-! How many orders there are. -/
namespace Go.Proofs.Ytidjcdfdfbomiaa
open Go.RowKit Go.Op

set_option maxHeartbeats 1000000 in
theorem mul_calls (x y : Nat) (hx : x < 4294967296) (hy : y < 4294967296) (hxy : x * y < 4294967296) (w : World) :
    Calls Try.prog 33 #[.int .u64 x, .int .u64 y] w fun e w' => e = .returned (.tuple #[.int .u64 0, .int .u64 ((x * y : Nat) : Int)]) ∧ w' = w := by
  have a1 : bits .and .u64 (x : Int) 4294967295 = (x : Int) := by
    have h := bits_and_u64_nat x 4294967295 (by omega) (by omega)
    rw [show x &&& 4294967295 = x % 4294967296 from Nat.and_two_pow_sub_one_eq_mod x 32, Nat.mod_eq_of_lt hx] at h
    exact h
  have a2 : bits .and .u64 (y : Int) 4294967295 = (y : Int) := by
    have h := bits_and_u64_nat y 4294967295 (by omega) (by omega)
    rw [show y &&& 4294967295 = y % 4294967296 from Nat.and_two_pow_sub_one_eq_mod y 32, Nat.mod_eq_of_lt hy] at h
    exact h
  have a0 : bits .and .u64 0 4294967295 = 0 := bits_and_u64_nat 0 4294967295 (by omega) (by omega)
  have d1 : (x : Int) / 4294967296 = 0 := by omega
  have d2 : (y : Int) / 4294967296 = 0 := by omega
  obtain ⟨z, hz⟩ : ∃ z : Nat, x * y = z := ⟨_, rfl⟩
  have m1 : (x : Int) * (y : Int) = (z : Int) := by rw [← hz]; exact (Int.natCast_mul x y).symm
  rw [hz] at hxy
  have d3 : (z : Int) / 4294967296 = 0 := by omega
  have e1 : IntKind.u64.wrap (z : Int) = (z : Int) := by rw [IntKind.wrap_u64]; omega
  rw [hz]
  go_enter Try.func33, Try.ntmps33
  go_wp2
  refine bodyPost_ret (v := .tuple #[.int .u64 0, .int .u64 (z : Int)]) ?_ rfl ⟨rfl, rfl⟩
  simp [results, Try.results33, go_sem]
theorem div_calls (x y : Nat) (hx : x < 4294967296) (hy : y < 4294967296) (hy0 : 0 < y) (w : World) :
    Calls Try.prog 34 #[.int .u64 0, .int .u64 x, .int .u64 y] w fun e w' => e = .returned (.tuple #[.int .u64 ((x / y : Nat) : Int), .int .u64 ((x % y : Nat) : Int)]) ∧ Below w.heap.size w w' := by
  obtain ⟨q, hq⟩ : ∃ q : Nat, x / y = q := ⟨_, rfl⟩
  obtain ⟨r, hr⟩ : ∃ r : Nat, x % y = r := ⟨_, rfl⟩
  have hq1 : q ≤ x := by rw [← hq]; exact Nat.div_le_self _ _
  have eq : (x : Int) / (y : Int) = (q : Int) := by rw [← hq]; exact (Int.natCast_ediv x y).symm
  have er : (x : Int) % (y : Int) = (r : Int) := by rw [← hr]; exact (Int.natCast_emod x y).symm
  have e1 : IntKind.u64.wrap (q : Int) = (q : Int) := by rw [IntKind.wrap_u64]; omega
  rw [hq, hr]
  have h1 : ¬ (y : Int) = 0 := by omega
  have h2 : ¬ (y : Int) ≤ 0 := by omega
  have h3 : (0 : Int) < y := by omega
  have hX := Lib.hid (Below.refl w.heap.size w)
  go_enter Try.func34, Try.ntmps34
  go_wp2_with fail
  go_quiet (fail)
  have hX2 := below_drewN hX.out nq
  go_wp2
  refine bodyPost_ret (v := .tuple #[.int .u64 (q : Int), .int .u64 (r : Int)]) ?_ rfl ⟨rfl, hX2⟩
  simp [results, Try.results34, go_sem, er]

/-- In how many ways k of n can be chosen, up to most: m steps are left, i is the next. -/
def chooseGo (n k most : Nat) : Nat → Nat → Nat → Nat
  | 0, _, c => min c most
  | m + 1, i, c => if most ≤ c * (n - k + i) / i then most else chooseGo n k most m (i + 1) (c * (n - k + i) / i)
def chooseV (n k most : Nat) : Nat := chooseGo n k most k 1 1

set_option maxHeartbeats 2000000 in
theorem choose_calls (n k most : Nat) (hk : k ≤ n) (hn : n ≤ 20000) (hm : 1 ≤ most) (hm1 : most ≤ 1000) (w : World) :
    Calls Try.prog 22 #[.int .i64 n, .int .i64 k, .int .i64 most] w fun e w' => e = .returned (.int .i64 (chooseV n k most : Nat)) ∧ Below w.heap.size w w' := by
  have hX := Lib.hid (Below.refl w.heap.size w)
  have hv : Hid (chooseV n k most = chooseGo n k most k 1 1) := rfl
  go_enter Try.func22, Try.ntmps22
  go_wp2
  go_loopw [7, 8, 9, 10] (fun vc vi _ _ w' => ∃ (i c : Nat), 1 ≤ i ∧ i ≤ k + 1 ∧ vi = .int .i64 i ∧ vc = .int .u64 c ∧ c ≤ 1000 ∧ Hid (chooseV n k most = chooseGo n k most (k + 1 - i) i c) ∧ Hid (Below w.heap.size w w')) (fun _ i _ _ _ => k + 1 - (intOf i).toNat)
  case atStart => exact ⟨1, 1, by omega, by omega, rfl, rfl, by omega, hv, hX⟩
  case round =>
    obtain ⟨i, c, hi1, hi2, rfl, rfl, hc, hg, hb⟩ := hrel
    by_cases hlt : i ≤ k
    · obtain ⟨a, ha⟩ : ∃ a : Nat, n - k + i = a := ⟨_, rfl⟩
      have ha1 : a ≤ 20000 := by omega
      have ha2 : ((n : Int) - (k : Int)) + (i : Int) = (a : Int) := by omega
      have hca : c * a ≤ 20000000 := Nat.le_trans (Nat.mul_le_mul hc ha1) (by omega)
      have e2 : IntKind.u64.wrap (a : Int) = (a : Int) := by rw [IntKind.wrap_u64]; omega
      have e3 : IntKind.u64.wrap (i : Int) = (i : Int) := by rw [IntKind.wrap_u64]; omega
      have e4 : IntKind.u64.wrap (most : Int) = (most : Int) := by rw [IntKind.wrap_u64]; omega
      have hmul := Lib.hid (mul_calls c a (by omega) (by omega) (by omega) wr)
      have hstep : Hid (chooseV n k most = if most ≤ c * a / i then most else chooseGo n k most (k + 1 - (i + 1)) (i + 1) (c * a / i)) := by
        show _ = _
        rw [hg.out, show k + 1 - i = (k + 1 - (i + 1)) + 1 by omega, chooseGo, ha]
      clear hg hv
      generalize c * a = z at *
      obtain ⟨q, hq⟩ : ∃ q : Nat, z / i = q := ⟨_, rfl⟩
      have hq1 : q ≤ z := by rw [← hq]; exact Nat.div_le_self _ _
      have hdiv := Lib.hid (div_calls z i (by omega) (by omega) (by omega) wr)
      rw [hq] at hdiv hstep
      generalize z % i = r at *
      clear hq
      go_wp2_with fail
      refine hmul.out.mono ?_
      rintro e w' ⟨rfl, hw'⟩
      subst hw'
      go_wp2_with fail
      refine hdiv.out.mono ?_
      rintro e w2 ⟨rfl, hb2⟩
      have hb3 := Lib.hid (hb.out.trans (hb2.mono hb.out.size))
      clear hmul hdiv hb2
      by_cases hmq : most ≤ q
      · have hv2 : Hid (chooseV n k most = most) := by show _ = _; rw [hstep.out, if_pos hmq]
        go_wp2
        go_ret
        exact ⟨ret_int (by rw [hv2.out]), hb3.out⟩
      · have hv2 : Hid (chooseV n k most = chooseGo n k most (k + 1 - (i + 1)) (i + 1) q) := by show _ = _; rw [hstep.out, if_neg hmq]
        go_wp2
        go_roundw
        case rel => exact ⟨i + 1, q, by omega, by omega, by go_num, rfl, by omega, hv2, hb3⟩
        case measure => simp [intOf]; omega
    · have hv2 : Hid (chooseV n k most = min c most) := by
        show _ = _
        rw [hg.out, show k + 1 - i = 0 by omega]; rfl
      go_wp2
      all_goals
        go_ret
        exact ⟨ret_int (by rw [hv2.out]; omega), hb.out⟩

/-- Choosing gives something, and no more than wanted. -/
theorem chooseGo_pos {n k most : Nat} (hk : k ≤ n) (hm : 1 ≤ most) : ∀ (m i c : Nat), 1 ≤ i → i + m ≤ k + 1 → 1 ≤ c → 1 ≤ chooseGo n k most m i c ∧ chooseGo n k most m i c ≤ most
  | 0, i, c, _, _, hc => by rw [chooseGo]; omega
  | m + 1, i, c, hi, him, hc => by
    rw [chooseGo]
    split
    · omega
    · refine chooseGo_pos hk hm m (i + 1) _ (by omega) (by omega) ?_
      rw [Nat.le_div_iff_mul_le (by omega)]
      have : i ≤ n - k + i := by omega
      calc 1 * i ≤ 1 * (n - k + i) := by omega
        _ ≤ c * (n - k + i) := Nat.mul_le_mul_right _ hc
theorem chooseV_pos {n k most : Nat} (hk : k ≤ n) (hm : 1 ≤ most) : 1 ≤ chooseV n k most ∧ chooseV n k most ≤ most := chooseGo_pos hk hm k 1 1 (by omega) (by omega) (by omega)

/-- How many orders plans have, up to most: n Ops came, in c orders. -/
def countGo (most : Nat) : Nat → Nat → List Plan → Nat
  | _, c, [] => min c most
  | n, c, p :: l => if most / c < chooseV (n + p.ops.length) (min p.ops.length n) most then most else countGo most (n + p.ops.length) (c * chooseV (n + p.ops.length) (min p.ops.length n) most) l
def countV (l : List Plan) (most : Int) : Nat := if good l && decide (1 ≤ most) then countGo most.toNat 0 1 l else 0
theorem countGo_step {most n c : Nat} {l : List Plan} {j : Nat} {p : Plan} (h : l[j]? = some p) :
    countGo most n c (l.drop j) = if most / c < chooseV (n + p.ops.length) (min p.ops.length n) most then most else countGo most (n + p.ops.length) (c * chooseV (n + p.ops.length) (min p.ops.length n) most) (l.drop (j + 1)) := by
  obtain ⟨hj, e⟩ := List.getElem?_eq_some_iff.1 h
  rw [List.drop_eq_getElem_cons hj, e]; rfl
theorem good_len {l : List Plan} (h : good l = true) : l.length ≤ 64 ∧ ∀ p ∈ l, p.ops.length ≤ 200 ∧ 1 ≤ p.sess ∧ p.sess ≤ 8 ∧ ∀ o ∈ p.ops, o.sess = p.sess := by
  simp only [good, Bool.and_eq_true, decide_eq_true_eq] at h
  refine ⟨h.1, ?_⟩
  have : ∀ (l : List Plan) (S : List Int), goodGo S l = true → ∀ p ∈ l, p.ops.length ≤ 200 ∧ 1 ≤ p.sess ∧ p.sess ≤ 8 ∧ ∀ o ∈ p.ops, o.sess = p.sess := by
    intro l
    induction l with
    | nil => intro S _ p hp; cases hp
    | cons q l ih =>
      intro S h p hp
      simp only [goodGo, Bool.and_eq_true, decide_eq_true_eq, List.all_eq_true, beq_iff_eq] at h
      rcases List.mem_cons.1 hp with rfl | hp
      · exact ⟨h.2.2.2.1, h.1, h.2.1, h.2.2.2.2.1⟩
      · exact ih _ h.2.2.2.2.2 p hp
  exact this l [] h.2

set_option maxHeartbeats 4000000 in
theorem count_calls (l : List Plan) (A : Option Addr) (n cap : Nat) (most : Int) (w : World) (hl : Sl tPlan w (fun _ => True) (.slice A n cap) l) (hm1 : most ≤ 1000) :
    Calls Try.prog 10 #[.slice A n cap, .int .i64 most] w fun e w' => e = .returned (.int .i64 (countV l most : Nat)) ∧ Below w.heap.size w w' := by
  obtain ⟨hln, hcap, hcm⟩ := hl.length
  have H := Lib.hid hl
  have HG := Lib.hid (good_calls l A n cap w hl)
  clear hl
  go_enter Try.func10, Try.ntmps10
  go_wp2_with fail
  refine HG.out.mono ?_
  rintro e w1 ⟨rfl, hb1⟩
  have hB1 := Lib.hid hb1
  clear HG hb1
  cases hgd : good l
  · have hv : Hid (countV l most = 0) := by show _ = _; rw [countV, hgd]; rfl
    go_wp2
    go_ret
    exact ⟨ret_int (by rw [hv.out]; rfl), hB1.out⟩
  by_cases hm0 : most < 1
  · have hv : Hid (countV l most = 0) := by show _ = _; rw [countV, decide_eq_false (by omega), Bool.and_false]; rfl
    go_wp2
    go_ret
    exact ⟨ret_int (by rw [hv.out]; rfl), hB1.out⟩
  obtain ⟨hg64, hgp⟩ := good_len hgd
  have HGP := Lib.hid hgp
  obtain ⟨mm, hmm⟩ : ∃ mm : Nat, most = (mm : Int) := ⟨most.toNat, by omega⟩
  have hv : Hid (countV l most = countGo mm 0 1 l) := by
    show _ = _
    rw [countV, hgd, decide_eq_true (by omega), hmm]; rfl
  have hmn : 1 ≤ mm ∧ mm ≤ 1000 := by omega
  obtain ⟨hmn1, hmn2⟩ := hmn
  clear hgp
  subst hmm
  have hX1 := Lib.hid (Below.refl w1.heap.size w1)
  go_wp2
  go_loopw [5, 6, 8, 9, 10, 20] (fun vn vc _ _ _ i w' => ∃ (j s c : Nat), j ≤ n ∧ i = .int .i64 j ∧ vn = .int .i64 s ∧ vc = .int .i64 c ∧ s ≤ j * 200 ∧ 1 ≤ c ∧ c ≤ mm ∧ Hid (countV l (mm : Int) = countGo mm s c (l.drop j)) ∧ Hid (Below w.heap.size w w')) (fun _ _ _ _ _ i _ => n - (intOf i).toNat)
  case atStart => exact ⟨0, 0, 1, by omega, rfl, rfl, rfl, by omega, by omega, by omega, hv, hB1⟩
  case round =>
    obtain ⟨j, s, c, hj, rfl, rfl, rfl, hs, hc1, hc2, hg, hb⟩ := hrel
    by_cases hlt : j < n
    · obtain ⟨p, hp⟩ := some_at (show j < l.length by omega)
      obtain ⟨b, off, P, np, cp, rfl, hbl, g0, g1, hP⟩ := sl_plan (H.out.below hb.out) hp
      obtain ⟨hp200, -⟩ := HGP.out p (List.mem_of_getElem? hp)
      have hpn := hP.length.1
      have hst := Lib.hid (hg.out.trans (countGo_step hp))
      rw [hpn] at hp200 hst
      have hb1 := Lib.hid (hb.out.alloc hb.out.size (.cells #[.int .i64 p.sess, .slice P np cp] 46))
      have hlen : s + np ≤ 20000 := by
        have : j * 200 ≤ 64 * 200 := Nat.mul_le_mul_right _ (by omega)
        omega
      have hch := Lib.hid (choose_calls (s + np) (min np s) mm (by omega) hlen hmn1 hmn2 (wr.alloc (.cells #[.int .i64 p.sess, .slice P np cp] 46)))
      obtain ⟨hw1, hw2⟩ := chooseV_pos (n := s + np) (k := min np s) (most := mm) (by omega) hmn1
      generalize chooseV (s + np) (min np s) mm = ways at *
      clear hp hP hg hv
      obtain ⟨q, hq⟩ : ∃ q : Nat, mm / c = q := ⟨_, rfl⟩
      have hq1 : q ≤ mm := by rw [← hq]; exact Nat.div_le_self _ _
      have eq : (mm : Int) / (c : Int) = (q : Int) := by rw [← hq]; exact (Int.natCast_ediv mm c).symm
      have e0 : ¬ (c : Int) = 0 := by omega
      have e1 : IntKind.i64.wrap (q : Int) = (q : Int) := by simp [IntKind.wrap, IntKind.bits, IntKind.signed]; omega
      have hcw : ways ≤ q → c * ways ≤ mm := fun h => by
        have := Nat.mul_le_mul_left c h
        rw [← hq] at this
        exact Nat.le_trans this (Nat.mul_div_le mm c)
      have hcw0 : 1 ≤ c * ways := Nat.mul_pos hc1 hw1
      have HCW := Lib.hid hcw
      rw [hq] at hst
      clear hq hcw
      rcases Nat.lt_trichotomy np s with hns | hns | hns
      all_goals
        first | rw [Nat.min_eq_left (Nat.le_of_lt hns)] at hch | rw [Nat.min_eq_right (Nat.le_of_lt hns)] at hch | (subst hns; rw [Nat.min_self] at hch)
        go_wp2_with fail
        refine hch.out.mono ?_
        rintro e w2 ⟨rfl, hb2⟩
        have hb3 := Lib.hid (hb1.out.trans (hb2.mono hb1.out.size))
        clear hch hb2
        by_cases hwq : q < ways
        · have hv2 := Lib.hid (hst.out.trans (if_pos hwq))
          go_wp2
          go_ret
          exact ⟨ret_int (by rw [hv2.out]), hb3.out⟩
        · have hv2 := Lib.hid (hst.out.trans (if_neg hwq))
          have hcw1 := HCW.out (by omega)
          obtain ⟨z, hz⟩ : ∃ z : Nat, c * ways = z := ⟨_, rfl⟩
          have m1 : (c : Int) * (ways : Int) = (z : Int) := by rw [← hz]; exact (Int.natCast_mul c ways).symm
          rw [hz] at hv2 hcw1 hcw0
          clear hz
          have e2 : IntKind.i64.wrap (z : Int) = (z : Int) := by simp [IntKind.wrap, IntKind.bits, IntKind.signed]; omega
          go_wp2
          go_roundw
          case rel => first | exact ⟨j + 1, s + np, z, by omega, by go_num, by go_num, rfl, by omega, by omega, by omega, hv2, hb3⟩ | exact ⟨j + 1, np + np, z, by omega, by go_num, by go_num, rfl, by omega, by omega, by omega, hv2, hb3⟩
          case measure => simp [intOf]; omega
    · have hv2 : Hid (countV l (mm : Int) = min c mm) := by
        show _ = _
        rw [hg.out, List.drop_of_length_le (by omega)]; rfl
      go_wp2
      all_goals
        go_ret
        exact ⟨ret_int (by rw [hv2.out]; omega), hb.out⟩
theorem lives_calls (w : World) : Calls Try.prog 6 #[] w fun e w' => e = .returned (.bool true) ∧ Below w.heap.size w w' := by
  have hB : Hid (Below w.heap.size w (((w.alloc (.cells #[.int .i64 0, .int .i64 1, .bool false, .string ⟨#[]⟩, .string ⟨#[]⟩, .int .i64 0] 48)).alloc (.cells #[.int .i64 0, .int .i64 2, .bool false, .string ⟨#[]⟩, .string ⟨#[]⟩, .int .i64 0] 48)).alloc (.cells #[.int .i64 1, .slice (some ⟨w.heap.size, 0, none⟩) 1 1, .int .i64 2, .slice (some ⟨w.heap.size + 1, 0, none⟩) 1 1] 46))) := (((Below.refl _ _).alloc (Nat.le_refl _) _).alloc (by simp) _).alloc (by simp; omega) _
  have b0 : Blk (((w.alloc (.cells #[.int .i64 0, .int .i64 1, .bool false, .string ⟨#[]⟩, .string ⟨#[]⟩, .int .i64 0] 48)).alloc (.cells #[.int .i64 0, .int .i64 2, .bool false, .string ⟨#[]⟩, .string ⟨#[]⟩, .int .i64 0] 48)).alloc (.cells #[.int .i64 1, .slice (some ⟨w.heap.size, 0, none⟩) 1 1, .int .i64 2, .slice (some ⟨w.heap.size + 1, 0, none⟩) 1 1] 46)) w.heap.size #[.int .i64 0, .int .i64 1, .bool false, .string ⟨#[]⟩, .string ⟨#[]⟩, .int .i64 0] 48 := ((Blk.new w _ 48).alloc _).alloc _
  have b1 : Blk (((w.alloc (.cells #[.int .i64 0, .int .i64 1, .bool false, .string ⟨#[]⟩, .string ⟨#[]⟩, .int .i64 0] 48)).alloc (.cells #[.int .i64 0, .int .i64 2, .bool false, .string ⟨#[]⟩, .string ⟨#[]⟩, .int .i64 0] 48)).alloc (.cells #[.int .i64 1, .slice (some ⟨w.heap.size, 0, none⟩) 1 1, .int .i64 2, .slice (some ⟨w.heap.size + 1, 0, none⟩) 1 1] 46)) (w.heap.size + 1) #[.int .i64 0, .int .i64 2, .bool false, .string ⟨#[]⟩, .string ⟨#[]⟩, .int .i64 0] 48 := (blk_new (by simp)).alloc _
  have b2 : Blk (((w.alloc (.cells #[.int .i64 0, .int .i64 1, .bool false, .string ⟨#[]⟩, .string ⟨#[]⟩, .int .i64 0] 48)).alloc (.cells #[.int .i64 0, .int .i64 2, .bool false, .string ⟨#[]⟩, .string ⟨#[]⟩, .int .i64 0] 48)).alloc (.cells #[.int .i64 1, .slice (some ⟨w.heap.size, 0, none⟩) 1 1, .int .i64 2, .slice (some ⟨w.heap.size + 1, 0, none⟩) 1 1] 46)) (w.heap.size + 1 + 1) #[.int .i64 1, .slice (some ⟨w.heap.size, 0, none⟩) 1 1, .int .i64 2, .slice (some ⟨w.heap.size + 1, 0, none⟩) 1 1] 46 := blk_new (by simp)
  have s0 : Sl tOp (((w.alloc (.cells #[.int .i64 0, .int .i64 1, .bool false, .string ⟨#[]⟩, .string ⟨#[]⟩, .int .i64 0] 48)).alloc (.cells #[.int .i64 0, .int .i64 2, .bool false, .string ⟨#[]⟩, .string ⟨#[]⟩, .int .i64 0] 48)).alloc (.cells #[.int .i64 1, .slice (some ⟨w.heap.size, 0, none⟩) 1 1, .int .i64 2, .slice (some ⟨w.heap.size + 1, 0, none⟩) 1 1] 46)) (fun _ => True) (.slice (some ⟨w.heap.size, 0, none⟩) 1 1) [⟨0, 1, false, ⟨#[]⟩, ⟨#[]⟩, 0⟩] :=
    ⟨_, 1, [.int .i64 0, .int .i64 1, .bool false, .string ⟨#[]⟩, .string ⟨#[]⟩, .int .i64 0], rfl, Nat.le_refl _, ⟨by omega, fun h => by cases h⟩, Cells.one (t := tOp) (x := ⟨0, 1, false, ⟨#[]⟩, ⟨#[]⟩, 0⟩) rfl, .inr ⟨_, 0, rfl, trivial, fun j u hj => by rw [b0.cell (0 + j)]; simpa using hj⟩⟩
  have s1 : Sl tOp (((w.alloc (.cells #[.int .i64 0, .int .i64 1, .bool false, .string ⟨#[]⟩, .string ⟨#[]⟩, .int .i64 0] 48)).alloc (.cells #[.int .i64 0, .int .i64 2, .bool false, .string ⟨#[]⟩, .string ⟨#[]⟩, .int .i64 0] 48)).alloc (.cells #[.int .i64 1, .slice (some ⟨w.heap.size, 0, none⟩) 1 1, .int .i64 2, .slice (some ⟨w.heap.size + 1, 0, none⟩) 1 1] 46)) (fun _ => True) (.slice (some ⟨w.heap.size + 1, 0, none⟩) 1 1) [⟨0, 2, false, ⟨#[]⟩, ⟨#[]⟩, 0⟩] :=
    ⟨_, 1, [.int .i64 0, .int .i64 2, .bool false, .string ⟨#[]⟩, .string ⟨#[]⟩, .int .i64 0], rfl, Nat.le_refl _, ⟨by omega, fun h => by cases h⟩, Cells.one (t := tOp) (x := ⟨0, 2, false, ⟨#[]⟩, ⟨#[]⟩, 0⟩) rfl, .inr ⟨_, 0, rfl, trivial, fun j u hj => by rw [b1.cell (0 + j)]; simpa using hj⟩⟩
  have h1 : Cells tPlan (((w.alloc (.cells #[.int .i64 0, .int .i64 1, .bool false, .string ⟨#[]⟩, .string ⟨#[]⟩, .int .i64 0] 48)).alloc (.cells #[.int .i64 0, .int .i64 2, .bool false, .string ⟨#[]⟩, .string ⟨#[]⟩, .int .i64 0] 48)).alloc (.cells #[.int .i64 1, .slice (some ⟨w.heap.size, 0, none⟩) 1 1, .int .i64 2, .slice (some ⟨w.heap.size + 1, 0, none⟩) 1 1] 46)) (fun _ => True) [(⟨1, [⟨0, 1, false, ⟨#[]⟩, ⟨#[]⟩, 0⟩]⟩ : Plan)] [.int .i64 1, .slice (some ⟨w.heap.size, 0, none⟩) 1 1] := Cells.one (plan_mk (p := (⟨1, [⟨0, 1, false, ⟨#[]⟩, ⟨#[]⟩, 0⟩]⟩ : Plan)) s0)
  have h2 : Cells tPlan (((w.alloc (.cells #[.int .i64 0, .int .i64 1, .bool false, .string ⟨#[]⟩, .string ⟨#[]⟩, .int .i64 0] 48)).alloc (.cells #[.int .i64 0, .int .i64 2, .bool false, .string ⟨#[]⟩, .string ⟨#[]⟩, .int .i64 0] 48)).alloc (.cells #[.int .i64 1, .slice (some ⟨w.heap.size, 0, none⟩) 1 1, .int .i64 2, .slice (some ⟨w.heap.size + 1, 0, none⟩) 1 1] 46)) (fun _ => True) [(⟨2, [⟨0, 2, false, ⟨#[]⟩, ⟨#[]⟩, 0⟩]⟩ : Plan)] [.int .i64 2, .slice (some ⟨w.heap.size + 1, 0, none⟩) 1 1] := Cells.one (plan_mk (p := (⟨2, [⟨0, 2, false, ⟨#[]⟩, ⟨#[]⟩, 0⟩]⟩ : Plan)) s1)
  have h3 := h1.append h2
  have s2 : Hid (Sl tPlan (((w.alloc (.cells #[.int .i64 0, .int .i64 1, .bool false, .string ⟨#[]⟩, .string ⟨#[]⟩, .int .i64 0] 48)).alloc (.cells #[.int .i64 0, .int .i64 2, .bool false, .string ⟨#[]⟩, .string ⟨#[]⟩, .int .i64 0] 48)).alloc (.cells #[.int .i64 1, .slice (some ⟨w.heap.size, 0, none⟩) 1 1, .int .i64 2, .slice (some ⟨w.heap.size + 1, 0, none⟩) 1 1] 46)) (fun _ => True) (.slice (some ⟨w.heap.size + 1 + 1, 0, none⟩) 2 2) [(⟨1, [⟨0, 1, false, ⟨#[]⟩, ⟨#[]⟩, 0⟩]⟩ : Plan), (⟨2, [⟨0, 2, false, ⟨#[]⟩, ⟨#[]⟩, 0⟩]⟩ : Plan)]) :=
    ⟨_, 2, _, rfl, Nat.le_refl _, ⟨by omega, fun h => by cases h⟩, h3, .inr ⟨_, 0, rfl, trivial, fun j u hj => by rw [b2.cell (0 + j)]; simpa using hj⟩⟩
  clear b0 b1 b2 s0 s1 h1 h2 h3
  go_enter Try.func6, Try.ntmps6
  go_wp2_with fail
  have hc := count_calls _ _ 2 2 100 _ s2.out (by omega)
  rw [show countV [⟨1, [⟨0, 1, false, ⟨#[]⟩, ⟨#[]⟩, 0⟩]⟩, ⟨2, [⟨0, 2, false, ⟨#[]⟩, ⟨#[]⟩, 0⟩]⟩] 100 = 2 from by decide] at hc
  refine hc.mono ?_
  rintro e w2 ⟨rfl, hb2⟩
  go_wp2
  go_ret
  exact ⟨rfl, hB.out.trans (hb2.mono hB.out.size)⟩
end Go.Proofs.Ytidjcdfdfbomiaa
