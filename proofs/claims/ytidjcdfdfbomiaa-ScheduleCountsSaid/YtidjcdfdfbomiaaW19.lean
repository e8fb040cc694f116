import Derived.Test.YtidjcdfdfbomiaaW18
/-! All: the picks of all orders, to whoever ranges over them. -/
namespace Go.Proofs.Ytidjcdfdfbomiaa
open Go.RowKit Go.Op Go.Shelf
attribute [local go_sem] Oper.semAt_some

theorem yield_any {m : Nat} (m' : Nat) {P : Program} {l : Nat} {args : Array Value} {W : World} {R : Ending → World → Prop} (h : YieldAt Fence.wide m P l args W R) : YieldAt Fence.wide m' P l args W R := by
  obtain ⟨fn, tmps, assign, body, hy, hR⟩ := h
  exact ⟨fn, tmps, assign, body, hy, hR.1, fun c cs _ => hR.2 c cs (room_wide _)⟩

theorem all_calls (A : Option Addr) (n cap : Nat) (w : World) : Calls Try.prog 9 #[.slice A n cap] w fun e w' => e = .returned (.func (.func 19) #[] #[.pointer (some ⟨w.heap.size, 0, none⟩)]) ∧ w' = w.alloc (.cells #[.slice A n cap] 22) := by
  go_enter Try.func9, Try.ntmps9
  go_wp2
  go_ret
  exact ⟨rfl, rfl⟩

theorem lay_ats (A : Option Addr) (n cap : Nat) (w : World) (hn : n ≤ 1000) :
    Calls Try.prog 20 #[.slice A n cap] w fun e w' => ∃ gd ga, e = .returned (.pointer (some ⟨gd, 0, none⟩)) ∧ Blk w' gd #[.slice A n cap, .slice (some ⟨ga, 0, none⟩) n n] 69 ∧ Ats w' ga (List.replicate n 0) ∧ gd ≠ ga ∧ w.heap.size ≤ gd ∧ w.heap.size ≤ ga ∧ Below w.heap.size w w' := by
  have hmk : ∀ W : World, (Instr.makeSlice 34 (.int .i64 (n : Int)) (.int .i64 (n : Int))).run Try.prog W = .ok (.slice (some ⟨W.heap.size, 0, none⟩) n n) (W.alloc (.cells (madeCells #[.int .i64 0] n) 3)) := by
    intro W
    obtain ⟨i0, hi, hzz⟩ := Option.map_eq_some_iff.1 info3
    simp only [Prod.mk.injEq] at hzz
    obtain ⟨q0, q1, q2⟩ := hzz
    have := run_make_rowN (P := Try.prog) 34 3 i0 _ Try.underlying34 hi q0 .i64 .i64 n n (by omega) (by rw [q2]; omega) (by omega) W
    rw [q1, Nat.mul_one] at this
    exact this
  have hD : Hid (Blk ((w.alloc (.cells (madeCells #[.int .i64 0] n) 3)).alloc (.cells #[.slice A n cap, .slice (some ⟨w.heap.size, 0, none⟩) n n] 69)) (w.heap.size + 1) #[.slice A n cap, .slice (some ⟨w.heap.size, 0, none⟩) n n] 69) := blk_new (by simp)
  have hA : Hid (Ats ((w.alloc (.cells (madeCells #[.int .i64 0] n) 3)).alloc (.cells #[.slice A n cap, .slice (some ⟨w.heap.size, 0, none⟩) n n] 69)) w.heap.size (List.replicate n 0)) := ⟨_, (Blk.new w _ 3).alloc _, made_list n⟩
  have hB : Hid (Below w.heap.size w ((w.alloc (.cells (madeCells #[.int .i64 0] n) 3)).alloc (.cells #[.slice A n cap, .slice (some ⟨w.heap.size, 0, none⟩) n n] 69))) := ((Below.refl _ _).alloc (Nat.le_refl _) _).alloc (by simp) _
  go_enter Try.func20, Try.ntmps20
  go_wp2
  go_ret
  exact ⟨w.heap.size + 1, w.heap.size, rfl, hD.out, hA.out, by omega, by omega, by omega, hB.out⟩

/-- What comes of All. -/
def allL (l : List Plan) : List (List Int) := if good l = true then orders l else []

set_option maxHeartbeats 4000000 in
theorem all1_in (l : List Plan) (A : Option Addr) (n cap lo bx m : Nat) (lid : Nat) (J Jx : List (List Int) → World → Prop) (W : World) (hl : Sl tPlan W (fun b => b < lo) (.slice A n cap) l) (hlo : lo ≤ W.heap.size) (hbx : W.cell? ⟨bx, 0, none⟩ = some (.slice A n cap)) (hbl : bx < W.heap.size)
    (hJ : ∀ s A B, J s A → Below W.heap.size A B → J s B) (hJx : ∀ s A B, Jx s A → Below W.heap.size A B → Jx s B)
    (hY : ∀ pre x v W1, J pre W1 → pre ++ [x] <+: allL l → Sl tI W1 (fun b => W.heap.size ≤ b) v x → YieldAt Fence.wide (m - 1) Try.prog lid #[v] W1 fun e W' => (e = .returned (.bool true) ∧ J (pre ++ [x]) W' ∧ Stays lo W.heap.size W1 W') ∨ (e = .returned (.bool false) ∧ Jx (pre ++ [x]) W' ∧ Stays lo W.heap.size W1 W'))
    (h0 : J [] W) :
    CallsIn Fence.wide m Try.prog 19 #[.func (.yield lid) #[] #[], .pointer (some ⟨bx, 0, none⟩)] W fun e W' => (∃ v, e = .returned v) ∧ (J (allL l) W' ∨ (∃ pre, Jx pre W')) := by
  have hdd : ∀ k : Nat, (Fence.wide.depth.isSome = true → 1 ≤ k) := fun k h => by cases h
  have HG := Lib.hid (good_calls l A n cap W (hl.mono fun _ _ => trivial))
  have hln := hl.length.1
  have HL := Lib.hid hl
  clear hl
  refine callsIn_of_wp Try.func19 rfl trivial ?_ rfl
  simp only [Try.ntmps19, List.size_toArray, List.length_cons, List.length_nil, Nat.reduceAdd, Nat.reduceSub, Array.replicate_succ, Array.replicate_zero, List.push_toArray, List.append_toArray, List.nil_append, List.cons_append]
  cases hg : good l
  · rw [hg] at HG
    have hS : allL l = [] := by simp [allL, hg]
    gi_wp2_with (refine ⟨trivial, hdd _, ?_⟩
                 gi_at_call 12
                 refine (callsIn_wide.2 HG.out).mono ?_
                 rintro e w1 ⟨rfl, hb⟩)
    go_end0
    exact ⟨⟨_, rfl⟩, .inl (by rw [hS]; exact hJ _ _ _ h0 hb)⟩
  · rw [hg] at HG
    have hS : allL l = orders l := by simp [allL, hg]
    have hgp := good_len hg
    have hop200 : ∀ p ∈ l, p.ops.length ≤ 200 := fun p hp => (hgp.2 p hp).1
    have hn64 : n ≤ 64 := by omega
    have HLY := fun w1 => lay_ats A n cap w1 (by omega)
    gi_wp2_with (refine ⟨trivial, hdd _, ?_⟩
                 gi_at_call 12
                 refine (callsIn_wide.2 HG.out).mono ?_
                 rintro e w1 ⟨rfl, hb⟩
                 have hc1 := (hb.cell (p := ⟨bx, 0, none⟩) hbl).trans hbx
                 have HLY1 := Lib.hid (HLY w1))
    have hL1 := Lib.hid (HL.out.below hb)
    have hJ1 := hJ _ _ _ h0 hb
    have hz1 := hb.size
    clear HLY hc1
    gi_wp2_with (refine ⟨trivial, hdd _, ?_⟩
                 gi_at_call 20
                 refine (callsIn_wide.2 HLY1.out).mono ?_
                 rintro e w2 ⟨gd, ga, rfl, hD, hA, hne, hgd, hga, hb2⟩)
    have h3 := rest_zero l
    have h4 := sum_le hop200
    rw [hln] at h3 h4
    have h5 : n * 200 ≤ 64 * 200 := Nat.mul_le_mul_right _ hn64
    have hmap : ((full l (rest l (List.replicate n 0)) (List.replicate n 0)).map fun t => [] ++ t) = orders l := by simp [orders, hln]
    have hc := each_in l A n cap lo W.heap.size gd ga hn64 hlo (by omega) (by omega) hne hop200 lid J Jx (allL l) hJ hJx (fun m' pre x v W1 k1 k2 k3 => yield_any m' (hY pre x v W1 k1 k2 k3)) (rest l (List.replicate n 0)) (m - 1) (List.replicate n 0) [] none 0 0 [] w2
      ((hL1.out.inb.step fun b hb => hb2.block b hb.2).mono fun b hb => hb.1) hD hA (by simp) rfl (Own.nil _ _ _ _ _) (by intro h; cases h) (by intro h; cases h) (by simp only [List.length_nil]; omega) (hJ _ _ _ hJ1 (hb2.mono hz1)) (by rw [hmap, List.nil_append, hS]; exact List.prefix_rfl)
    rw [hmap, List.nil_append] at hc
    clear HLY1 hD hA hb2
    refine ⟨trivial, hdd _, ?_⟩
    refine hc.mono ?_
    clear hc
    rintro e w3 (⟨rfl, hJ3, -⟩ | ⟨rfl, hx, -⟩)
    · gi_wp2
      go_end0
      exact ⟨⟨_, rfl⟩, .inl (by rw [hS]; exact hJ3)⟩
    · gi_wp2
      go_end0
      exact ⟨⟨_, rfl⟩, .inr hx⟩
