import Derived.Test.YtidfogcilegloaaW6
namespace Go.Proofs.Ytidfogcilegloaa
open Go.RowKit

theorem cut_filter {l : List Ver} (hg : good l = true) (n : Int) : cut l n = l.filter fun v => decide (v.at_ ≤ n) := by
  rw [cut, if_pos hg, filter_takeWhile hg]
  exact (List.prefix_iff_eq_take.1 (List.takeWhile_prefix _)).symm

theorem filter_yes {l : List Ver} {p : Ver → Bool} {k : Nat} {x : Ver} (hx : l[k]? = some x) (h : p x = true) : (l.take (k + 1)).filter p = (l.take k).filter p ++ [x] := by
  rw [List.take_add_one, hx, List.filter_append]; simp [h]
theorem filter_no {l : List Ver} {p : Ver → Bool} {k : Nat} {x : Ver} (hx : l[k]? = some x) (h : p x = false) : (l.take (k + 1)).filter p = (l.take k).filter p := by
  rw [List.take_add_one, hx, List.filter_append]; simp [h]
theorem filter_len (l : List Ver) (p : Ver → Bool) (k : Nat) : ((l.take k).filter p).length ≤ k := Nat.le_trans (List.length_filter_le _ _) (List.length_take_le _ _)

theorem put_no {l : List Ver} {v : Ver} (h : canPut l v = false) : put l v = l := by rw [put, h]; rfl

set_option maxHeartbeats 1000000 in
set_option maxRecDepth 100000 in
theorem put_calls (l : List Ver) (v : Ver) (A : Option Addr) (n cap : Nat) (w : World) (hl : Sl tVer w (fun _ => True) (.slice A n cap) l) (hn : n ≤ 1000000) :
    Calls Try.prog 41 #[.slice A n cap, .agg #[.int .i64 v.at_, .string v.val, .bool v.dead]] w fun e w' =>
      ∃ u, e = .returned (.tuple #[u, .bool (canPut l v)]) ∧ Sl tVer w' (fun b => canPut l v = true → w.heap.size ≤ b) u (put l v) ∧ Below w.heap.size w w' := by
  obtain ⟨hln, hcap, hm⟩ := hl.length
  have H := Lib.hid hl
  clear hl
  have hb1 : Below w.heap.size w (w.alloc (.cells #[.int .i64 v.at_, .string v.val, .bool v.dead] 93)) := (Below.refl _ _).alloc (Nat.le_refl _) _
  have HB := Lib.hid hb1
  clear hb1
  have hL : Hid (∀ W, Below w.heap.size w W → Calls Try.prog 60 #[.slice A n cap] W fun e w' => e = .returned (.int .i64 (lastOf l)) ∧ Below W.heap.size W w') := fun W hW => last_calls l A n cap _ (H.out.below hW)
  have hR : Hid (∀ W, Calls Try.prog 61 #[.agg #[.int .i64 v.at_, .string v.val, .bool v.dead]] W fun e w' => e = .returned (.bool v.right) ∧ Below W.heap.size W w') := fun W => right_calls v W
  cases hg : good l
  · have HG : Hid (canPut l v = false) := by rw [canPut, hg]; rfl
    have hG : Hid (∀ W, Below w.heap.size w W → Calls Try.prog 59 #[.slice A n cap] W fun e w' => e = .returned (.bool false) ∧ Below W.heap.size W w') := fun W hW => by
      rw [← hg]; exact good_calls l A n cap _ (H.out.below hW)
    clear hg
    go_enter Try.func41, Try.ntmps41
    go_wp2_with fail
    refine wp_region_later (by kernel_rfl) (by kernel_rfl) ?_
    repeat (go_big_quiet_step ((go_at_call 59; exact calls_later (hG.out _ (later_from HB.out (by simp) _)))))
    refine wpQuiet_nil ?_
    rintro _ ⟨e, rfl⟩
    have hb := later_from HB.out (by simp) e
    generalize later _ e = w1 at *
    go_wp2
    go_ret2
    exact ⟨_, by rw [HG.out]; rfl, by rw [HG.out, put_no HG.out]; exact (H.out.below hb).mono (fun _ _ h => by cases h), hb⟩
  · have hG : Hid (∀ W, Below w.heap.size w W → Calls Try.prog 59 #[.slice A n cap] W fun e w' => e = .returned (.bool true) ∧ Below W.heap.size W w') := fun W hW => by
      rw [← hg]; exact good_calls l A n cap _ (H.out.below hW)
    have hcp : canPut l v = (decide (lastOf l < v.at_) && v.right) := by rw [canPut, hg]; simp
    have HC := Lib.hid hcp
    clear hg hcp
    generalize lastOf l = la at *
    by_cases hla : la < v.at_
    · have hd : decide (v.at_ ≤ la) = false := decide_eq_false (by omega)
      cases hr : v.right
      · have HG : Hid (canPut l v = false) := by rw [HC.out, hr]; show _ = _; simp
        rw [hr] at hR
        clear hr
        go_enter Try.func41, Try.ntmps41
        go_wp2_with fail
        refine wp_region_later (by kernel_rfl) (by kernel_rfl) ?_
        repeat (go_big_quiet_step (first | (go_at_call 59; exact calls_later (hG.out _ (later_from HB.out (by simp) _))) | (go_at_call 60; exact calls_later (hL.out _ (later_from HB.out (by simp) _))) | (go_at_call 61; exact calls_later (hR.out _))))
        refine wpQuiet_nil ?_
        rintro _ ⟨e, rfl⟩
        have hb := later_from HB.out (by simp) e
        generalize later _ e = w1 at *
        go_wp2
        go_ret2
        exact ⟨_, by rw [HG.out]; rfl, by rw [HG.out, put_no HG.out]; exact (H.out.below hb).mono (fun _ _ h => by cases h), hb⟩
      · have HG : Hid (canPut l v = true) := by rw [HC.out, hr]; show _ = _; simp [hla]
        rw [hr] at hR
        clear hr
        go_enter Try.func41, Try.ntmps41
        go_wp2_with fail
        refine wp_region_later (by kernel_rfl) (by kernel_rfl) ?_
        repeat (go_big_quiet_step (first | (go_at_call 59; exact calls_later (hG.out _ (later_from HB.out (by simp) _))) | (go_at_call 60; exact calls_later (hL.out _ (later_from HB.out (by simp) _))) | (go_at_call 61; exact calls_later (hR.out _))))
        refine wpQuiet_nil ?_
        rintro _ ⟨e, rfl⟩
        have hb := later_from HB.out (by simp) e
        obtain ⟨hc, -⟩ := bcell (later_below e)
        have hz := (later_below e).size
        generalize later _ e = w1 at *
        have hz1 : w.heap.size < w1.heap.size := by simp at hz; exact hz
        have c0 : w1.cell? ⟨w.heap.size, 0, none⟩ = some (.int .i64 v.at_) := by rw [hc _ _ (by simp)]; simp [go_sem]
        have c1 : w1.cell? ⟨w.heap.size, 1, none⟩ = some (.string v.val) := by rw [hc _ _ (by simp)]; simp [go_sem]
        have c2 : w1.cell? ⟨w.heap.size, 2, none⟩ = some (.bool v.dead) := by rw [hc _ _ (by simp)]; simp [go_sem]
        clear hc hz
        have hmk : ∀ W : World, (Instr.makeSlice 86 (.int .i64 (n : Int)) (.int .i64 ((n : Int) + 1))).run Try.prog W = .ok (.slice (some ⟨W.heap.size, 0, none⟩) n (n + 1)) (W.alloc (.cells (madeCells #[.int .i64 0, .string ⟨#[]⟩, .bool false] ((n + 1) * 3)) 93)) := by
          intro W
          obtain ⟨i0, hi, hzz⟩ := Option.map_eq_some_iff.1 info68
          simp only [Prod.mk.injEq] at hzz
          obtain ⟨q0, q1, q2⟩ := hzz
          have := run_make_rowN (P := Try.prog) 86 93 i0 _ Try.underlying86 hi q0 .i64 .i64 n (n + 1) (by omega) (by rw [q2]; omega) (by omega) W
          rw [q1] at this
          have e1 : ((n : Int) + 1) = ((n + 1 : Nat) : Int) := by omega
          rw [e1]
          exact this
        have HM : Hid (Own tVer (w1.alloc (.cells (madeCells #[.int .i64 0, .string ⟨#[]⟩, .bool false] ((n + 1) * 3)) 93)) w.heap.size 93 (fun _ => False) (.slice (some ⟨w1.heap.size, 0, none⟩) n (n + 1)) (List.replicate n Ver.zero)) :=
          Own.made (t := tVer) (x := Ver.zero) (z := .agg #[.int .i64 0, .string ⟨#[]⟩, .bool false]) (fun _ => rfl) 93 (by omega) (by omega) (by omega)
        have HS : Hid (∀ W, Below w.heap.size w W → SlX tVer W (fun b => False ∧ (Value.slice (some ⟨w1.heap.size, 0, none⟩) n (n + 1)).ownBlock ≠ some b) (.slice A n cap) l) := fun W hW => (H.out.below hW).xflat
        have hb2 := hb.alloc (by omega : w.heap.size ≤ w1.heap.size) (.cells (madeCells #[.int .i64 0, .string ⟨#[]⟩, .bool false] ((n + 1) * 3)) 93)
        go_wp2_with (first
          | (refine wpList_copySl (o := ⟨some 31, _, _, _, _, _⟩) (t := tVer) (ok := fun _ => False) (l := List.replicate n Ver.zero) (m := l) (w0 := w) w.heap.size rfl _ _ 86 86 93 rfl Try.underlying86 ?d1 ?d2 ?d3 HM.out (HS.out _ hb2) ?d4 hb2 ?_; (case d1 => exact (by kernel_rfl)); (case d2 => rfl); (case d3 => rfl); (case d4 => simp; omega); intro w2 hO2 hB2 hg2
             have e0 : w2.cell? ⟨w.heap.size, 0, none⟩ = some (.int .i64 v.at_) := hg2.cell (by rw [(bcell ((Below.refl w1.heap.size w1).alloc (Nat.le_refl _) _)).1 _ _ hz1]; exact c0) (by simp [Value.ownBlock]; omega)
             have e1 : w2.cell? ⟨w.heap.size, 1, none⟩ = some (.string v.val) := hg2.cell (by rw [(bcell ((Below.refl w1.heap.size w1).alloc (Nat.le_refl _) _)).1 _ _ hz1]; exact c1) (by simp [Value.ownBlock]; omega)
             have e2 : w2.cell? ⟨w.heap.size, 2, none⟩ = some (.bool v.dead) := hg2.cell (by rw [(bcell ((Below.refl w1.heap.size w1).alloc (Nat.le_refl _) _)).1 _ _ hz1]; exact c2) (by simp [Value.ownBlock]; omega)
             have hO3 := Lib.hid hO2
             clear hO2)
          | (refine wpList_app1 (o := ⟨some 35, _, _, _, _, _⟩) (t := tVer) (w0 := w) (cs := v.enc) (y := v) w.heap.size rfl _ _ 86 93 _ 32 rfl Try.underlying86 info68 rfl (by decide) (by decide) rfl rfl rfl hO3.out rfl hB2 ?c2 ?c3 ?_; (case c2 => have := hB2.size; omega); (case c3 => rw [hln]; omega); intro v1 w3 hO4 hB3 _ _))
        go_ret2
        exact ⟨_, by rw [HG.out]; rfl, by rw [put, HG.out]; exact hO4.sl.mono (fun b hb _ => hb.elim False.elim And.left), hB3⟩
    · have HG : Hid (canPut l v = false) := by rw [HC.out]; show _ = _; simp; omega
      have hd : decide (v.at_ ≤ la) = true := decide_eq_true (by omega)
      go_enter Try.func41, Try.ntmps41
      go_wp2_with fail
      refine wp_region_later (by kernel_rfl) (by kernel_rfl) ?_
      repeat (go_big_quiet_step (first | (go_at_call 59; exact calls_later (hG.out _ (later_from HB.out (by simp) _))) | (go_at_call 60; exact calls_later (hL.out _ (later_from HB.out (by simp) _))) | (go_at_call 61; exact calls_later (hR.out _))))
      refine wpQuiet_nil ?_
      rintro _ ⟨e, rfl⟩
      have hb := later_from HB.out (by simp) e
      generalize later _ e = w1 at *
      go_wp2
      go_ret2
      exact ⟨_, by rw [HG.out]; rfl, by rw [HG.out, put_no HG.out]; exact (H.out.below hb).mono (fun _ _ h => by cases h), hb⟩
end Go.Proofs.Ytidfogcilegloaa
