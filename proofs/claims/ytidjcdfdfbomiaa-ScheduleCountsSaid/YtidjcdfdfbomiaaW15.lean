import Derived.Test.YtidjcdfdfbomiaaW14
/-! The document's All. -/
namespace Go.Proofs.Ytidjcdfdfbomiaa
open Go.RowKit Go.Op

theorem rall_calls (l : List Plan) (A : Option Addr) (n cap B ga : Nat) (hn : n ≤ 64) (hBg : B ≤ ga) (hop200 : ∀ p ∈ l, p.ops.length ≤ 200) : ∀ (f : Nat)
    (at_ : List Nat) (ahead : List Int) (Ah : Option Addr) (nh ch most : Nat) (w : World), Sl tPlan w (fun b => b < B) (.slice A n cap) l → Ats w ga at_ → at_.length = n → rest l at_ = f →
    Sl tI w (fun b => b ≠ ga) (.slice Ah nh ch) ahead → nh + f ≤ 20000 → 1 ≤ most → most ≤ 1000 →
    Calls Try.prog 18 #[.slice A n cap, .slice (some ⟨ga, 0, none⟩) n n, .slice Ah nh ch, .int .i64 (most : Int)] w fun e w' => ∃ v, e = .returned v ∧ Sl tI.slice w' (fun b => w.heap.size ≤ b) v (((full l f at_).map fun t => ahead ++ t).take most) ∧ Below w.heap.size w w' := by
  intro f
  induction f with
  | zero =>
    intro at_ ahead Ah nh ch most w hl hd hal hr hah hnh hm hm1
    refine rall_leaf l A n cap B ga at_ ahead Ah nh ch most w hl hd hal hah hn (by omega) hm ?_
    apply Classical.byContradiction
    intro h
    have := rest_some h
    omega
  | succ f ih =>
    intro at_ ahead Ah nh ch most w hl hd hal hr hah hnh hm hm1
    exact rall_node l A n cap B ga f hn hBg hop200 (fun at' ahead' Ah' nh' ch' most' X h1 h2 h3 h4 h5 h6 h7 h8 => ih at' ahead' Ah' nh' ch' most' X h1 h2 h3 h4 h5 h6 h7 h8) at_ ahead Ah nh ch most w hl hd hal hr hah hnh hm hm1

/-- All orders of plans. -/
def orders (l : List Plan) : List (List Int) := full l (rest l (List.replicate l.length 0)) (List.replicate l.length 0)
theorem rest_zero (l : List Plan) : rest l (List.replicate l.length 0) = (l.map fun p => p.ops.length).sum := by
  rw [← rvec_sum, rvec_zero]
theorem sum_le {l : List Plan} (h : ∀ p ∈ l, p.ops.length ≤ 200) : (l.map fun p => p.ops.length).sum ≤ l.length * 200 := by
  induction l with
  | nil => simp
  | cons p l ih =>
    have h1 := h p List.mem_cons_self
    have h2 := ih fun q hq => h q (List.mem_cons_of_mem _ hq)
    simp only [List.map_cons, List.sum_cons, List.length_cons]
    omega

theorem made_list (n : Nat) : (madeCells #[Value.int .i64 0] n).toList = (List.replicate n 0).map fun a : Nat => Value.int .i64 (a : Int) := by
  rw [toList_madeCells_one, List.map_replicate]
  rfl
set_option maxHeartbeats 2000000 in
theorem rAll_calls (l : List Plan) (A : Option Addr) (n cap : Nat) (most : Int) (w : World) (hl : Sl tPlan w (fun _ => True) (.slice A n cap) l) (hm : most ≤ 200) :
    Calls Try.prog 8 #[.slice A n cap, .int .i64 most] w fun e w' => ∃ v, e = .returned v ∧ Sl tI.slice w' (fun b => w.heap.size ≤ b) v (if good l = true ∧ 1 ≤ most then (orders l).take most.toNat else []) ∧ Below w.heap.size w w' := by
  have hG := Lib.hid (rgood_calls l A n cap w hl)
  have H := Lib.hid hl
  have hln := hl.length.1
  clear hl
  cases hg : good l
  · rw [hg] at hG
    rw [if_neg (by simp)]
    go_enter Try.func8, Try.ntmps8
    go_wp2_with fail
    refine hG.out.mono ?_
    rintro e w1 ⟨rfl, hb⟩
    go_wp2
    go_ret
    exact ⟨_, rfl, Sl.nil _ _ _, hb⟩
  · rw [hg] at hG
    by_cases h1 : 1 ≤ most
    · rw [if_pos ⟨rfl, h1⟩]
      have hgp := good_len hg
      obtain ⟨m, rfl⟩ : ∃ m : Nat, most = m := ⟨most.toNat, by omega⟩
      rw [Int.toNat_natCast]
      have hmk : ∀ W : World, (Instr.makeSlice 34 (.int .i64 (n : Int)) (.int .i64 (n : Int))).run Try.prog W = .ok (.slice (some ⟨W.heap.size, 0, none⟩) n n) (W.alloc (.cells (madeCells #[.int .i64 0] n) 3)) := by
        intro W
        obtain ⟨i0, hi, hzz⟩ := Option.map_eq_some_iff.1 info3
        simp only [Prod.mk.injEq] at hzz
        obtain ⟨q0, q1, q2⟩ := hzz
        have := run_make_rowN (P := Try.prog) 34 3 i0 _ Try.underlying34 hi q0 .i64 .i64 n n (by omega) (by rw [q2]; omega) (by omega) W
        rw [q1, Nat.mul_one] at this
        exact this
      go_enter Try.func8, Try.ntmps8
      go_wp2_with fail
      refine hG.out.mono ?_
      rintro e w1 ⟨rfl, hb⟩
      have hA : Hid (Ats (w1.alloc (.cells (madeCells #[.int .i64 0] n) 3)) w1.heap.size (List.replicate n 0)) := ⟨_, Blk.new _ _ _, made_list n⟩
      have hc := rall_calls l A n cap w1.heap.size w1.heap.size (by omega) (Nat.le_refl _) (fun p hp => (hgp.2 p hp).1) (rest l (List.replicate n 0)) (List.replicate n 0) [] none 0 0 m (w1.alloc (.cells (madeCells #[.int .i64 0] n) 3))
        (((H.out.below hb).inb.below ((Below.refl _ _).alloc (Nat.le_refl _) _)).mono fun b hb => hb.2) hA.out (by simp) rfl (Sl.nil _ _ _) (by
          have h2 := sum_le fun p hp => (hgp.2 p hp).1
          have h3 := rest_zero l
          rw [hln] at h3 h2
          have h4 : n * 200 ≤ 64 * 200 := Nat.mul_le_mul_right _ (by omega)
          omega) (by omega) (by omega)
      have hB := Lib.hid hb
      have HC := Lib.hid hc
      clear hb hc
      go_wp2_with fail
      refine HC.out.mono ?_
      rintro e w2 ⟨v, rfl, hs, hb2⟩
      rw [show (w1.alloc (.cells (madeCells #[.int .i64 0] n) 3)).heap.size = w1.heap.size + 1 by simp] at hs
      have hb3 := hB.out.trans (((Below.refl _ _).alloc (Nat.le_refl _) (.cells (madeCells #[.int .i64 0] n) 3)).mono hB.out.size)
      have hB4 := Lib.hid (hb3.trans (hb2.mono hb3.size))
      have HS := Lib.hid hs
      clear hs hb2 hb3
      go_wp2
      go_ret
      refine ⟨_, rfl, ?_, hB4.out⟩
      have h1 := HS.out.mono (ok' := fun b => w.heap.size ≤ b) fun b hb => by have := hB.out.size; omega
      rw [orders, hln]
      simpa using h1
    · rw [if_neg (by omega)]
      go_enter Try.func8, Try.ntmps8
      go_wp2_with fail
      refine hG.out.mono ?_
      rintro e w1 ⟨rfl, hb⟩
      go_wp2
      go_ret
      exact ⟨_, rfl, Sl.nil _ _ _, hb⟩
