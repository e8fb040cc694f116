import Derived.Test.YtnleldogmogkgaaW8
namespace Go.Proofs.Ytnleldogmogkgaa
open Go.RowKit

set_option maxHeartbeats 1000000 in
/-- The document's Put, refused. -/
theorem rput_no (l : List Ver) (v : Ver) (A : Option Addr) (n cap : Nat) (w : World) (hl : Sl tVer w (fun _ => True) (.slice A n cap) l) (_hn : n ≤ 1000000) (hno : canPut l v = false) :
    Calls Try.prog 70 #[.slice A n cap, .agg #[.int .i64 v.at_, .string v.val, .bool v.dead]] w fun e w' =>
      ∃ u, e = .returned (.tuple #[u, .bool false]) ∧ Sl tVer w' (fun _ => True) u l ∧ Below w.heap.size w w' := by
  obtain ⟨hln, hcap, hm⟩ := hl.length
  have H := Lib.hid hl
  clear hl
  have HB : Hid (Below w.heap.size w (w.alloc (.cells #[.int .i64 v.at_, .string v.val, .bool v.dead] 99))) := (Below.refl _ _).alloc (Nat.le_refl _) _
  have hL : Hid (∀ W, Below w.heap.size w W → Calls Try.prog 72 #[.slice A n cap] W fun e w' => e = .returned (.int .i64 (lastOf l)) ∧ Below W.heap.size W w') := fun W hW => rlast_calls l A n cap _ (H.out.below hW)
  cases hg : good l
  · have hG : Hid (∀ W, Below w.heap.size w W → Calls Try.prog 65 #[.slice A n cap] W fun e w' => e = .returned (.bool false) ∧ Below W.heap.size W w') := fun W hW => by
      rw [← hg]; exact rgood_calls l A n cap _ (H.out.below hW)
    clear hg hno
    go_enter Try.func70, Try.ntmps70
    go_wp2_with fail
    refine wp_region_later (by kernel_rfl) (by kernel_rfl) ?_
    repeat (go_big_quiet_step ((go_at_call 65; exact calls_later (hG.out _ (later_from HB.out (by simp) _)))))
    refine wpQuiet_nil ?_
    rintro _ ⟨e, rfl⟩
    have hb := later_from HB.out (by simp) e
    generalize later _ e = w1 at *
    go_wp2
    go_ret2
    exact ⟨_, rfl, H.out.below hb, hb⟩
  · have hG : Hid (∀ W, Below w.heap.size w W → Calls Try.prog 65 #[.slice A n cap] W fun e w' => e = .returned (.bool true) ∧ Below W.heap.size W w') := fun W hW => by
      rw [← hg]; exact rgood_calls l A n cap _ (H.out.below hW)
    have hcp : (decide (lastOf l < v.at_) && v.right) = false := by rw [← hno, canPut, hg]; simp
    have HC := Lib.hid hcp
    clear hg hcp hno
    generalize lastOf l = la at *
    obtain ⟨va, vs, vd⟩ := v
    by_cases hla : la < va
    · have hd : decide (va ≤ la) = false := decide_eq_false (by omega)
      have hr : Hid (Ver.right ⟨va, vs, vd⟩ = false) := by have := HC.out; simp [hla] at this; exact this
      cases vd
      · exact absurd hr.out (by simp [Ver.right])
      · have he : vs.toList.isEmpty = false := by have := hr.out; simpa [Ver.right] using this
        have he' : (vs.toList = []) = False := by simpa using he
        clear hr
        go_enter Try.func70, Try.ntmps70
        go_wp2_with fail
        refine wp_region_later (by kernel_rfl) (by kernel_rfl) ?_
        repeat (go_big_quiet_step (first | (go_at_call 65; exact calls_later (hG.out _ (later_from HB.out (by simp) _))) | (go_at_call 72; exact calls_later (hL.out _ (later_from HB.out (by simp) _)))))
        refine wpQuiet_nil ?_
        rintro _ ⟨e, rfl⟩
        have hb := later_from HB.out (by simp) e
        generalize later _ e = w1 at *
        go_wp2
        go_ret2
        exact ⟨_, rfl, H.out.below hb, hb⟩
    · have hd : decide (va ≤ la) = true := decide_eq_true (by omega)
      go_enter Try.func70, Try.ntmps70
      go_wp2_with fail
      refine wp_region_later (by kernel_rfl) (by kernel_rfl) ?_
      repeat (go_big_quiet_step (first | (go_at_call 65; exact calls_later (hG.out _ (later_from HB.out (by simp) _))) | (go_at_call 72; exact calls_later (hL.out _ (later_from HB.out (by simp) _)))))
      refine wpQuiet_nil ?_
      rintro _ ⟨e, rfl⟩
      have hb := later_from HB.out (by simp) e
      generalize later _ e = w1 at *
      go_wp2
      go_ret2
      exact ⟨_, rfl, H.out.below hb, hb⟩

set_option maxHeartbeats 2000000 in
/-- The document's Put, done: a version that is alive. -/
theorem rput_yes_false (l : List Ver) (va : Int) (vs : ByteArray) (A : Option Addr) (n cap : Nat) (w : World) (hl : Sl tVer w (fun _ => True) (.slice A n cap) l) (hn : n ≤ 1000000) (hyes : canPut l ⟨va, vs, false⟩ = true) :
    Calls Try.prog 70 #[.slice A n cap, .agg #[.int .i64 va, .string vs, .bool false]] w fun e w' =>
      ∃ u, e = .returned (.tuple #[u, .bool true]) ∧ Sl tVer w' (fun b => w.heap.size ≤ b) u (l ++ [⟨va, vs, false⟩]) ∧ Below w.heap.size w w' := by
  obtain ⟨hln, hcap, hm⟩ := hl.length
  have H := Lib.hid hl
  clear hl
  have HB : Hid (Below w.heap.size w (w.alloc (.cells #[.int .i64 va, .string vs, .bool false] 99))) := (Below.refl _ _).alloc (Nat.le_refl _) _
  have hL : Hid (∀ W, Below w.heap.size w W → Calls Try.prog 72 #[.slice A n cap] W fun e w' => e = .returned (.int .i64 (lastOf l)) ∧ Below W.heap.size W w') := fun W hW => rlast_calls l A n cap _ (H.out.below hW)
  have hy := hyes
  simp only [canPut, Bool.and_eq_true, decide_eq_true_eq] at hy
  obtain ⟨⟨hg, hla⟩, hr⟩ := hy
  have hG : Hid (∀ W, Below w.heap.size w W → Calls Try.prog 65 #[.slice A n cap] W fun e w' => e = .returned (.bool true) ∧ Below W.heap.size W w') := fun W hW => by
    rw [← hg]; exact rgood_calls l A n cap _ (H.out.below hW)
  clear hg hyes
  generalize lastOf l = la at *
  have hd : decide (va ≤ la) = false := decide_eq_false (by omega)
  have hR := Lib.hid hr
  clear hr
  go_enter Try.func70, Try.ntmps70
  go_wp2_with fail
  refine wp_region_later (by kernel_rfl) (by kernel_rfl) ?_
  repeat (go_big_quiet_step (first | (go_at_call 65; exact calls_later (hG.out _ (later_from HB.out (by simp) _))) | (go_at_call 72; exact calls_later (hL.out _ (later_from HB.out (by simp) _)))))
  refine wpQuiet_nil ?_
  rintro _ ⟨e, rfl⟩
  have hb := later_from HB.out (by simp) e
  have hbx := (Blk.new w _ 99).below (later_below e) (by simp)
  have hz := (later_below e).size
  generalize later _ e = w1 at *
  have hz1 : w.heap.size < w1.heap.size := by simp at hz; exact hz
  clear hz
  obtain ⟨c0, c1, c2⟩ := hbx.three
  have HBX := Lib.hid hbx
  clear hbx
  go_wp2_with fail
  go_region_law (first
    | (refine step_appSl (o := ⟨some 28, _, _, _, _, _⟩) (t := tVer) (ok := fun _ => False) (l := []) (m := l) (w0 := w) w.heap.size rfl _ _ 86 99 _ 32 rfl Try.underlying86 info99 rfl (by decide) (by decide) rfl rfl ?_ ?_ ?_ ?_ ?_ ?_
       · refine Own.ofBlk tVer _ ?_ (by omega); (simp only [Blk, alloc_heap, drew_heap]; simp; done)
       · refine (H.out.below ?_).xflat; repeat (first | with_reducible exact hb | apply Below.drew | refine Below.alloc ?_ (by first | omega | (simp; omega)) _)
       · repeat (first | with_reducible exact hb | apply Below.drew | refine Below.alloc ?_ (by first | omega | (simp; omega)) _)
       · simp; omega
       · simp; omega
       intro v2 w2 hO hB hg hat
       replace hg : World.grownBy _ w2 (some _) := hg
       have hb2 := (hg.block w.heap.size (by simp; omega) (by simp; omega)).trans (HBX.out.below (B := w1.heap.size) (by repeat (first | with_reducible exact Below.refl _ _ | apply Below.drew | refine Below.alloc ?_ (by simp) _)) hz1)
       have hsz := hg.size
       obtain ⟨d0, d1, d2⟩ := Blk.three hb2
       have HO := Lib.hid hO
       clear hb2 hO hat)
    | (refine step_appSl (o := ⟨some 31, _, _, _, _, _⟩) (t := tVer) (ok := fun _ => False) (l := [] ++ l) (m := [⟨va, vs, false⟩]) (w0 := w) w.heap.size rfl _ _ 86 99 _ 32 rfl Try.underlying86 info99 rfl (by decide) (by decide) rfl rfl ?_ ?_ ?_ ?_ ?_ ?_
       · first | exact HO.out | exact HO.out.alloc _
       · refine SlX.one (e := 99) (cs := Ver.enc ⟨va, vs, false⟩) ?_ rfl
         first | exact Blk.new w2 _ _ | (refine (hg.block w1.heap.size ?_ ?_).trans ?_ <;> first | (simp only [alloc_heap, drew_heap, Ver.enc]; simp; done) | (simp; omega)) | (refine (hg.block (w1.heap.size + 1) ?_ ?_).trans ?_ <;> first | (simp only [alloc_heap, drew_heap, Ver.enc]; simp; done) | (simp; omega))
       · first | exact hB | exact hB.alloc (by have := hB.size; omega) _
       · simp at hsz; first | omega | (simp; omega)
       · simp; omega
       intro v3 w3 hO3 hB3 _ _))
  all_goals
    go_wp2
    go_ret2
    exact ⟨_, rfl, hO3.sl.mono (fun b hb => hb.elim False.elim And.left), hB3⟩

set_option maxHeartbeats 2000000 in
/-- The document's Put, done: a version that is dead. -/
theorem rput_yes_true (l : List Ver) (va : Int) (vs : ByteArray) (A : Option Addr) (n cap : Nat) (w : World) (hl : Sl tVer w (fun _ => True) (.slice A n cap) l) (hn : n ≤ 1000000) (hyes : canPut l ⟨va, vs, true⟩ = true) :
    Calls Try.prog 70 #[.slice A n cap, .agg #[.int .i64 va, .string vs, .bool true]] w fun e w' =>
      ∃ u, e = .returned (.tuple #[u, .bool true]) ∧ Sl tVer w' (fun b => w.heap.size ≤ b) u (l ++ [⟨va, vs, true⟩]) ∧ Below w.heap.size w w' := by
  obtain ⟨hln, hcap, hm⟩ := hl.length
  have H := Lib.hid hl
  clear hl
  have HB : Hid (Below w.heap.size w (w.alloc (.cells #[.int .i64 va, .string vs, .bool true] 99))) := (Below.refl _ _).alloc (Nat.le_refl _) _
  have hL : Hid (∀ W, Below w.heap.size w W → Calls Try.prog 72 #[.slice A n cap] W fun e w' => e = .returned (.int .i64 (lastOf l)) ∧ Below W.heap.size W w') := fun W hW => rlast_calls l A n cap _ (H.out.below hW)
  have hy := hyes
  simp only [canPut, Bool.and_eq_true, decide_eq_true_eq] at hy
  obtain ⟨⟨hg, hla⟩, hr⟩ := hy
  have hG : Hid (∀ W, Below w.heap.size w W → Calls Try.prog 65 #[.slice A n cap] W fun e w' => e = .returned (.bool true) ∧ Below W.heap.size W w') := fun W hW => by
    rw [← hg]; exact rgood_calls l A n cap _ (H.out.below hW)
  clear hg hyes
  generalize lastOf l = la at *
  have hd : decide (va ≤ la) = false := decide_eq_false (by omega)
  have hR := Lib.hid hr
  clear hr
  have he' : vs.toList = [] := by have := hR.out; simpa [Ver.right] using this
  have he : vs.toList.isEmpty = true := by simpa using he'
  go_enter Try.func70, Try.ntmps70
  go_wp2_with fail
  refine wp_region_later (by kernel_rfl) (by kernel_rfl) ?_
  repeat (go_big_quiet_step (first | (go_at_call 65; exact calls_later (hG.out _ (later_from HB.out (by simp) _))) | (go_at_call 72; exact calls_later (hL.out _ (later_from HB.out (by simp) _)))))
  refine wpQuiet_nil ?_
  rintro _ ⟨e, rfl⟩
  have hb := later_from HB.out (by simp) e
  have hbx := (Blk.new w _ 99).below (later_below e) (by simp)
  have hz := (later_below e).size
  generalize later _ e = w1 at *
  have hz1 : w.heap.size < w1.heap.size := by simp at hz; exact hz
  clear hz
  obtain ⟨c0, c1, c2⟩ := hbx.three
  have HBX := Lib.hid hbx
  clear hbx
  go_wp2_with fail
  go_region_law (first
    | (refine step_appSl (o := ⟨some 28, _, _, _, _, _⟩) (t := tVer) (ok := fun _ => False) (l := []) (m := l) (w0 := w) w.heap.size rfl _ _ 86 99 _ 32 rfl Try.underlying86 info99 rfl (by decide) (by decide) rfl rfl ?_ ?_ ?_ ?_ ?_ ?_
       · refine Own.ofBlk tVer _ ?_ (by omega); (simp only [Blk, alloc_heap, drew_heap]; simp; done)
       · refine (H.out.below ?_).xflat; repeat (first | with_reducible exact hb | apply Below.drew | refine Below.alloc ?_ (by first | omega | (simp; omega)) _)
       · repeat (first | with_reducible exact hb | apply Below.drew | refine Below.alloc ?_ (by first | omega | (simp; omega)) _)
       · simp; omega
       · simp; omega
       intro v2 w2 hO hB hg hat
       replace hg : World.grownBy _ w2 (some _) := hg
       have hb2 := (hg.block w.heap.size (by simp; omega) (by simp; omega)).trans (HBX.out.below (B := w1.heap.size) (by repeat (first | with_reducible exact Below.refl _ _ | apply Below.drew | refine Below.alloc ?_ (by simp) _)) hz1)
       have hsz := hg.size
       obtain ⟨d0, d1, d2⟩ := Blk.three hb2
       have HO := Lib.hid hO
       clear hb2 hO hat)
    | (refine step_appSl (o := ⟨some 31, _, _, _, _, _⟩) (t := tVer) (ok := fun _ => False) (l := [] ++ l) (m := [⟨va, vs, true⟩]) (w0 := w) w.heap.size rfl _ _ 86 99 _ 32 rfl Try.underlying86 info99 rfl (by decide) (by decide) rfl rfl ?_ ?_ ?_ ?_ ?_ ?_
       · first | exact HO.out | exact HO.out.alloc _
       · refine SlX.one (e := 99) (cs := Ver.enc ⟨va, vs, true⟩) ?_ rfl
         first | exact Blk.new w2 _ _ | (refine (hg.block w1.heap.size ?_ ?_).trans ?_ <;> first | (simp only [alloc_heap, drew_heap, Ver.enc]; simp; done) | (simp; omega)) | (refine (hg.block (w1.heap.size + 1) ?_ ?_).trans ?_ <;> first | (simp only [alloc_heap, drew_heap, Ver.enc]; simp; done) | (simp; omega))
       · first | exact hB | exact hB.alloc (by have := hB.size; omega) _
       · simp at hsz; first | omega | (simp; omega)
       · simp; omega
       intro v3 w3 hO3 hB3 _ _))
  all_goals
    go_wp2
    go_ret2
    exact ⟨_, rfl, hO3.sl.mono (fun b hb => hb.elim False.elim And.left), hB3⟩

theorem rput_calls (l : List Ver) (v : Ver) (A : Option Addr) (n cap : Nat) (w : World) (hl : Sl tVer w (fun _ => True) (.slice A n cap) l) (hn : n ≤ 1000000) :
    Calls Try.prog 70 #[.slice A n cap, .agg #[.int .i64 v.at_, .string v.val, .bool v.dead]] w fun e w' =>
      ∃ u, e = .returned (.tuple #[u, .bool (canPut l v)]) ∧ Sl tVer w' (fun _ => True) u (put l v) ∧ Below w.heap.size w w' := by
  cases h : canPut l v
  · exact (rput_no l v A n cap w hl hn h).mono fun e w' ⟨u, a, b, c⟩ => ⟨u, a, by rw [put, h]; exact b, c⟩
  · obtain ⟨va, vs, vd⟩ := v
    have hp : put l ⟨va, vs, vd⟩ = l ++ [⟨va, vs, vd⟩] := by rw [put, h]; rfl
    cases vd
    · exact (rput_yes_false l va vs A n cap w hl hn h).mono fun e w' ⟨u, a, b, c⟩ => ⟨u, a, by rw [hp]; exact b.mono fun _ _ => trivial, c⟩
    · exact (rput_yes_true l va vs A n cap w hl hn h).mono fun e w' ⟨u, a, b, c⟩ => ⟨u, a, by rw [hp]; exact b.mono fun _ _ => trivial, c⟩
end Go.Proofs.Ytnleldogmogkgaa
