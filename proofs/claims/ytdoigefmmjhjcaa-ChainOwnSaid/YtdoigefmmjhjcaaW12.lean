import Derived.Test.YtdoigefmmjhjcaaW11
import Derived.Deep.QuietTactic
import Derived.BigQuiet
/-! What slices.Clone, Cut, Trim and Put tell is the call's own, and no text shares its bytes: it may be written to. -/
namespace Go.Proofs.Ytdoigefmmjhjcaa
open Go.RowKit

/-- No cell of the block is shared with a text. -/
def Unf (w : World) (b : Nat) : Prop := ∀ o, w.frozen? ⟨b, o, none⟩ = false
theorem Own.unf {α : Type} {t : Ty α} {w : World} {v : Value} {l : List α} {base e : Nat} (h : Own t w base e (fun _ => False) v l) : Sl t w (fun b => base ≤ b ∧ Unf w b) v l := by
  obtain ⟨cs, h1, h2⟩ := h
  have hcells := fun g hg => World.ownsRow.cells h1 (g := g) hg
  rcases h1.2 with ⟨rfl, h0⟩ | ⟨g, cap, cur, rfl, hb, hh, hn, hc, _⟩
  · obtain rfl := List.eq_nil_of_length_eq_zero h0
    obtain rfl : cs = [] := h2
    exact Sl.nil _ _ _
  · refine ⟨_, cap, cs, rfl, hn, ⟨by simpa [maxLen] using hc, fun h => by cases h⟩, h2.mono fun b hb => hb.1.elim, .inr ⟨g, 0, rfl, ⟨hb, fun o => by simp [World.frozen?, hh]⟩, fun j u hj => ?_⟩⟩
    have := hcells g rfl j u hj
    rwa [show (⟨g, 0, none⟩ : Addr).add j = ⟨g, 0 + j, none⟩ by unfold Addr.add; split <;> simp_all] at this
theorem unf_below {B : Nat} {w w' : World} (hb : Below B w w') {b : Nat} (h : Unf w b) (hlt : b < B) : Unf w' b := fun o => ((bcell hb).2 b o hlt).trans (h o)

theorem unf_set {w : World} {b : Nat} (h : Unf w b) (p : Addr) (u : Value) : Unf (w.setCell p u) b := fun o => by simpa using h o

theorem clone_own (l : List Ver) (A : Option Addr) (n cap : Nat) (w : World) (hl : Sl tVer w (fun _ => True) (.slice A n cap) l) (hn : n ≤ 1000000) :
    Calls Try.prog 28 #[.slice A n cap] w fun e w' => ∃ v, e = .returned v ∧ Sl tVer w' (fun b => w.heap.size ≤ b ∧ Unf w' b) v l ∧ Below w.heap.size w w' := by
  obtain ⟨hln, hcap, hm⟩ := hl.length
  cases A with
  | none =>
    have hc0 : cap = 0 := by obtain ⟨A', cap', cs, e, h1, h2, _⟩ := hl; injection e with e1 e2 e3; rw [e3]; exact h2.2 e1.symm
    subst hc0
    obtain rfl : n = 0 := by omega
    obtain rfl := List.eq_nil_of_length_eq_zero hln
    have hne := fun W : World => Lib.run_eql_slice_nil (P := Try.prog) W 23 27 none 0 0 0 0 Try.underlying23
    go_enter Try.func28, Try.ntmps28
    go_wp2
    go_ret
    exact ⟨_, rfl, Sl.nil _ _ _, Below.refl _ _⟩
  | some ad =>
    have H := Lib.hid hl
    clear hl
    have hne := fun W : World => Lib.run_eql_slice_nil (P := Try.prog) W 23 27 (some ad) n cap 0 0 Try.underlying23
    go_enter Try.func28, Try.ntmps28
    have hsrc : SlX tVer (w.alloc (.cells #[] 27)) (fun b => False ∧ (Value.slice (some ⟨w.heap.size, 0, none⟩) 0 0).ownBlock ≠ some b) (.slice (some ad) n cap) l := Sl.xflat (H.out.below ((Below.refl _ _).alloc (Nat.le_refl _) _))
    have HS := Lib.hid hsrc
    clear hsrc
    go_wp2_with (at_builtin; refine wpList_appSl (t := tVer) (ok := fun _ => False) (l := []) (m := l) (w0 := w) w.heap.size rfl _ _ 23 27 _ 32 rfl Try.underlying23 info27 rfl (by decide) (by decide) rfl rfl (Own.empty tVer w 27 _ (Nat.le_refl _)) HS.out ((Below.refl _ _).alloc (Nat.le_refl _) _) (by simp) (by simp; omega) ?_; intro v1 w1 hO hB1 _ _)
    go_ret
    exact ⟨_, rfl, hO.unf, hB1⟩


theorem cut_own (l : List Ver) (A : Option Addr) (n cap : Nat) (at_ : Int) (w : World) (hl : Sl tVer w (fun _ => True) (.slice A n cap) l) (hn : n ≤ 1000000) :
    Calls Try.prog 21 #[.slice A n cap, .int .i64 at_] w fun e w' => ∃ v, e = .returned v ∧ Sl tVer w' (fun b => w.heap.size ≤ b ∧ Unf w' b) v (cut l at_) ∧ Below w.heap.size w w' := by
  obtain ⟨hln, hcap, hm⟩ := hl.length
  have H := Lib.hid hl
  clear hl
  cases hg : good l
  · have HG := Lib.hid hg
    go_enter Try.func21, Try.ntmps21
    go_wp2_with fail
    refine (good_calls l _ n cap _ H.out).mono ?_
    rw [hg]
    rintro e w' ⟨rfl, hb⟩
    clear hg
    go_wp2
    go_ret
    exact ⟨_, rfl, by rw [cut, HG.out]; exact Sl.nil _ _ _, hb⟩
  · have HG := Lib.hid hg
    have hu := upTo_le l at_
    rw [hln] at hu
    have HU : Hid (∀ W : World, Sl tVer W (fun _ => True) (.slice A n cap) l → Calls Try.prog 27 #[.slice A n cap, .int .i64 at_] W fun e w' => e = .returned (.int .i64 (upTo l at_ : Nat)) ∧ Below W.heap.size W w') :=
      fun W hW => upTo_calls l _ n cap at_ W hW HG.out (by omega)
    have hfin : Hid (cut l at_ = l.take (upTo l at_)) := by rw [cut, HG.out, if_pos rfl]; rfl
    generalize upTo l at_ = u at *
    go_enter Try.func21, Try.ntmps21
    go_wp2_with fail
    refine (good_calls l _ n cap _ H.out).mono ?_
    rw [hg]
    rintro e w' ⟨rfl, hb⟩
    clear hg
    go_wp2_with fail
    refine (HU.out _ (H.out.below hb)).mono ?_
    rintro e w'' ⟨rfl, hb2⟩
    go_wp2_with fail
    have hb3 := hb.trans (hb2.mono hb.size)
    refine (clone_own _ _ _ _ _ ((H.out.below hb3).take hu) (by omega)).mono ?_
    rintro e w3 ⟨v, rfl, hv, hb4⟩
    go_wp2
    go_ret
    exact ⟨_, rfl, by rw [hfin.out]; exact hv.mono fun b hb => ⟨Nat.le_trans hb3.size hb.1, hb.2⟩, hb3.trans (hb4.mono hb3.size)⟩


theorem trim_own (l : List Ver) (A : Option Addr) (n cap : Nat) (at_ : Int) (w : World) (hl : Sl tVer w (fun _ => True) (.slice A n cap) l) (hn : n ≤ 1000000) :
    Calls Try.prog 11 #[.slice A n cap, .int .i64 at_] w fun e w' => ∃ v, e = .returned v ∧ Sl tVer w' (fun b => w.heap.size ≤ b ∧ Unf w' b) v (trim l at_) ∧ Below w.heap.size w w' := by
  obtain ⟨hln, hcap, hm⟩ := hl.length
  have H := Lib.hid hl
  clear hl
  cases hg : good l
  · have HG := Lib.hid hg
    go_enter Try.func11, Try.ntmps11
    go_wp2_with fail
    refine (good_calls l _ n cap _ H.out).mono ?_
    rw [hg]
    rintro e w' ⟨rfl, hb⟩
    clear hg
    go_wp2
    go_ret
    exact ⟨_, rfl, by rw [trim, HG.out]; exact Sl.nil _ _ _, hb⟩
  · have HG := Lib.hid hg
    have hu := upTo_le l at_
    rw [hln] at hu
    have HU : Hid (∀ W : World, Sl tVer W (fun _ => True) (.slice A n cap) l → Calls Try.prog 27 #[.slice A n cap, .int .i64 at_] W fun e w' => e = .returned (.int .i64 (upTo l at_ : Nat)) ∧ Below W.heap.size W w') :=
      fun W hW => upTo_calls l _ n cap at_ W hW HG.out (by omega)
    have hfin : Hid (trim l at_ = l.drop (trimAt l at_)) := by rw [trim, HG.out, if_pos rfl]; rfl
    have hse := Lib.hid (seen_eq l at_)
    by_cases h0 : upTo l at_ = 0
    · have hta : Hid (trimAt l at_ = 0) := by unfold trimAt; rw [hse.out, if_pos h0, h0]; rfl
      have h0' := Lib.hid h0
      clear h0 hse
      go_enter Try.func11, Try.ntmps11
      go_wp2_with fail
      refine (good_calls l _ n cap _ H.out).mono ?_
      rw [hg]
      rintro e w' ⟨rfl, hb⟩
      clear hg
      go_wp2_with fail
      refine (HU.out _ (H.out.below hb)).mono ?_
      rw [h0'.out]
      rintro e w'' ⟨rfl, hb2⟩
      go_wp2_with fail
      have hb3 := hb.trans (hb2.mono hb.size)
      refine (clone_own _ _ _ _ _ (H.out.below hb3) (by omega)).mono ?_
      rintro e w3 ⟨v, rfl, hv, hb4⟩
      go_wp2
      go_ret
      exact ⟨_, rfl, by rw [hfin.out, hta.out]; exact hv.mono fun b hb => ⟨Nat.le_trans hb3.size hb.1, hb.2⟩, hb3.trans (hb4.mono hb3.size)⟩
    · obtain ⟨x, hx⟩ := some_at (show upTo l at_ - 1 < l.length by omega)
      have hta : Hid (trimAt l at_ = if x.dead then upTo l at_ else upTo l at_ - 1) := by
        unfold trimAt; rw [hse.out, if_neg h0, hx]; show _ = _; unfold live; cases hd : x.dead <;> simp [hd]
      obtain ⟨b, off, rfl, hbl, c0, c1, c2⟩ := sl_ver H.out hx
      clear hse hx
      generalize upTo l at_ = u at *
      cases hd : x.dead
      · rw [hd] at c2 hta
        have hd' := Lib.hid hd
        clear hd
        go_enter Try.func11, Try.ntmps11
        go_wp2_with fail
        refine (good_calls l _ n cap _ H.out).mono ?_
        rw [hg]
        rintro e w' ⟨rfl, hb⟩
        clear hg
        go_wp2_with fail
        refine (HU.out _ (H.out.below hb)).mono ?_
        rintro e w'' ⟨rfl, hb2⟩
        have hb3 := hb.trans (hb2.mono hb.size)
        obtain ⟨hc, -⟩ := bcell hb3
        clear hb hb2
        go_wp2_with fail
        refine (clone_own _ _ _ _ _ ((H.out.below hb3).drop (k := u - 1) (by omega)) (by omega)).mono ?_
        rintro e w3 ⟨v, rfl, hv, hb4⟩
        go_wp2
        go_ret
        exact ⟨_, rfl, by rw [hfin.out, hta.out]; exact hv.mono fun b hb => ⟨Nat.le_trans hb3.size hb.1, hb.2⟩, hb3.trans (hb4.mono hb3.size)⟩
      · rw [hd] at c2 hta
        have hd' := Lib.hid hd
        clear hd
        by_cases huc : u = cap
        · have hfin2 : Hid (l.drop u = []) := List.drop_of_length_le (by omega)
          have huc' := Lib.hid huc
          subst huc
          obtain rfl : n = u := by omega
          go_enter Try.func11, Try.ntmps11
          go_wp2_with fail
          refine (good_calls l _ n n _ H.out).mono ?_
          rw [hg]
          rintro e w' ⟨rfl, hb⟩
          clear hg
          go_wp2_with fail
          refine (HU.out _ (H.out.below hb)).mono ?_
          rintro e w'' ⟨rfl, hb2⟩
          have hb3 := hb.trans (hb2.mono hb.size)
          obtain ⟨hc, -⟩ := bcell hb3
          clear hb hb2
          go_wp2_with fail
          refine (clone_own [] _ _ _ _ (Sl.none _ _ _ _ _ (by omega) (by intro h; cases h)) (by omega)).mono ?_
          rintro e w3 ⟨v, rfl, hv, hb4⟩
          go_wp2
          go_ret
          refine ⟨_, rfl, ?_, hb3.trans (hb4.mono hb3.size)⟩
          rw [hfin.out, hta.out, if_pos (by simp), hfin2.out]
          exact hv.mono fun b hb => ⟨Nat.le_trans hb3.size hb.1, hb.2⟩
        · go_enter Try.func11, Try.ntmps11
          go_wp2_with fail
          refine (good_calls l _ n cap _ H.out).mono ?_
          rw [hg]
          rintro e w' ⟨rfl, hb⟩
          clear hg
          go_wp2_with fail
          refine (HU.out _ (H.out.below hb)).mono ?_
          rintro e w'' ⟨rfl, hb2⟩
          have hb3 := hb.trans (hb2.mono hb.size)
          obtain ⟨hc, -⟩ := bcell hb3
          clear hb hb2
          go_wp2_with fail
          refine (clone_own _ _ _ _ _ ((H.out.below hb3).drop (k := u) (by omega)) (by omega)).mono ?_
          rintro e w3 ⟨v, rfl, hv, hb4⟩
          go_wp2
          go_ret
          exact ⟨_, rfl, by rw [hfin.out, hta.out]; exact hv.mono fun b hb => ⟨Nat.le_trans hb3.size hb.1, hb.2⟩, hb3.trans (hb4.mono hb3.size)⟩


set_option maxHeartbeats 1000000 in
theorem put_own (l : List Ver) (v : Ver) (A : Option Addr) (n cap : Nat) (w : World) (hl : Sl tVer w (fun _ => True) (.slice A n cap) l) (hn : n ≤ 1000000) :
    Calls Try.prog 22 #[.slice A n cap, .agg #[.int .i64 v.at_, .string v.val, .bool v.dead]] w fun e w' =>
      ∃ u, e = .returned (.tuple #[u, .bool (canPut l v)]) ∧ Sl tVer w' (fun b => canPut l v = true → w.heap.size ≤ b ∧ Unf w' b) u (put l v) ∧ Below w.heap.size w w' := by
  obtain ⟨hln, hcap, hm⟩ := hl.length
  have H := Lib.hid hl
  clear hl
  have hb1 : Below w.heap.size w (w.alloc (.cells #[.int .i64 v.at_, .string v.val, .bool v.dead] 27)) := (Below.refl _ _).alloc (Nat.le_refl _) _
  have HB := Lib.hid hb1
  clear hb1
  have hL : Hid (∀ W, Below w.heap.size w W → Calls Try.prog 18 #[.slice A n cap] W fun e w' => e = .returned (.int .i64 (lastOf l)) ∧ Below W.heap.size W w') := fun W hW => last_calls l A n cap _ (H.out.below hW)
  have hR : Hid (∀ W, Calls Try.prog 26 #[.agg #[.int .i64 v.at_, .string v.val, .bool v.dead]] W fun e w' => e = .returned (.bool v.right) ∧ Below W.heap.size W w') := fun W => right_calls v W
  cases hg : good l
  · have HG : Hid (canPut l v = false) := by rw [canPut, hg]; rfl
    have hG : Hid (∀ W, Below w.heap.size w W → Calls Try.prog 9 #[.slice A n cap] W fun e w' => e = .returned (.bool false) ∧ Below W.heap.size W w') := fun W hW => by
      rw [← hg]; exact good_calls l A n cap _ (H.out.below hW)
    clear hg
    go_enter Try.func22, Try.ntmps22
    go_wp2_with fail
    refine wp_region_later (by kernel_rfl) (by kernel_rfl) ?_
    repeat (go_big_quiet_step ((go_at_call 9; exact calls_later (hG.out _ (later_from HB.out (by simp) _)))))
    refine wpQuiet_nil ?_
    rintro _ ⟨e, rfl⟩
    have hb := later_from HB.out (by simp) e
    generalize later _ e = w1 at *
    go_wp2
    go_ret2
    exact ⟨_, by rw [HG.out]; rfl, by rw [HG.out, put_no HG.out]; exact (H.out.below hb).mono (fun _ _ h => by cases h), hb⟩
  · have hG : Hid (∀ W, Below w.heap.size w W → Calls Try.prog 9 #[.slice A n cap] W fun e w' => e = .returned (.bool true) ∧ Below W.heap.size W w') := fun W hW => by
      rw [← hg]; exact good_calls l A n cap _ (H.out.below hW)
    have hcp : canPut l v = (decide (lastOf l < v.at_) && v.right) := by rw [canPut, hg]; simp
    have HC := Lib.hid hcp
    clear hg hcp
    generalize lastOf l = la at *
    by_cases hla : la < v.at_
    · have hd : decide (v.at_ ≤ la) = false := decide_eq_false (by omega)
      cases hr : v.right
      · have HG : Hid (canPut l v = false) := by rw [HC.out, hr]; show _ = _; simp
        rw [hr] at hR
        clear hr
        go_enter Try.func22, Try.ntmps22
        go_wp2_with fail
        refine wp_region_later (by kernel_rfl) (by kernel_rfl) ?_
        repeat (go_big_quiet_step (first | (go_at_call 9; exact calls_later (hG.out _ (later_from HB.out (by simp) _))) | (go_at_call 18; exact calls_later (hL.out _ (later_from HB.out (by simp) _))) | (go_at_call 26; exact calls_later (hR.out _))))
        refine wpQuiet_nil ?_
        rintro _ ⟨e, rfl⟩
        have hb := later_from HB.out (by simp) e
        generalize later _ e = w1 at *
        go_wp2
        go_ret2
        exact ⟨_, by rw [HG.out]; rfl, by rw [HG.out, put_no HG.out]; exact (H.out.below hb).mono (fun _ _ h => by cases h), hb⟩
      · have HG : Hid (canPut l v = true) := by rw [HC.out, hr]; show _ = _; simp [hla]
        rw [hr] at hR
        clear hr
        go_enter Try.func22, Try.ntmps22
        go_wp2_with fail
        refine wp_region_later (by kernel_rfl) (by kernel_rfl) ?_
        repeat (go_big_quiet_step (first | (go_at_call 9; exact calls_later (hG.out _ (later_from HB.out (by simp) _))) | (go_at_call 18; exact calls_later (hL.out _ (later_from HB.out (by simp) _))) | (go_at_call 26; exact calls_later (hR.out _))))
        refine wpQuiet_nil ?_
        rintro _ ⟨e, rfl⟩
        have hb := later_from HB.out (by simp) e
        obtain ⟨hc, -⟩ := bcell (later_below e)
        have hz := (later_below e).size
        generalize later _ e = w1 at *
        have hz1 : w.heap.size < w1.heap.size := by simp at hz; exact hz
        have c0 : w1.cell? ⟨w.heap.size, 0, none⟩ = some (.int .i64 v.at_) := by rw [hc _ _ (by simp)]; simp [go_sem]
        have c1 : w1.cell? ⟨w.heap.size, 1, none⟩ = some (.string v.val) := by rw [hc _ _ (by simp)]; simp [go_sem]
        have c2 : w1.cell? ⟨w.heap.size, 2, none⟩ = some (.bool v.dead) := by rw [hc _ _ (by simp)]; simp [go_sem]
        clear hc hz
        have hmk : ∀ W : World, (Instr.makeSlice 23 (.int .i64 (n : Int)) (.int .i64 ((n : Int) + 1))).run Try.prog W = .ok (.slice (some ⟨W.heap.size, 0, none⟩) n (n + 1)) (W.alloc (.cells (madeCells #[.int .i64 0, .string ⟨#[]⟩, .bool false] ((n + 1) * 3)) 27)) := by
          intro W
          obtain ⟨i0, hi, hzz⟩ := Option.map_eq_some_iff.1 info27
          simp only [Prod.mk.injEq] at hzz
          obtain ⟨q0, q1, q2⟩ := hzz
          have := run_make_rowN (P := Try.prog) 23 27 i0 _ Try.underlying23 hi q0 .i64 .i64 n (n + 1) (by omega) (by rw [q2]; omega) (by omega) W
          rw [q1] at this
          have e1 : ((n : Int) + 1) = ((n + 1 : Nat) : Int) := by omega
          rw [e1]
          exact this
        have HM : Hid (Own tVer (w1.alloc (.cells (madeCells #[.int .i64 0, .string ⟨#[]⟩, .bool false] ((n + 1) * 3)) 27)) w.heap.size 27 (fun _ => False) (.slice (some ⟨w1.heap.size, 0, none⟩) n (n + 1)) (List.replicate n Ver.zero)) :=
          Own.made (t := tVer) (x := Ver.zero) (z := .agg #[.int .i64 0, .string ⟨#[]⟩, .bool false]) (fun _ => rfl) 27 (by omega) (by omega) (by omega)
        have HS : Hid (∀ W, Below w.heap.size w W → SlX tVer W (fun b => False ∧ (Value.slice (some ⟨w1.heap.size, 0, none⟩) n (n + 1)).ownBlock ≠ some b) (.slice A n cap) l) := fun W hW => (H.out.below hW).xflat
        have hb2 := hb.alloc (by omega : w.heap.size ≤ w1.heap.size) (.cells (madeCells #[.int .i64 0, .string ⟨#[]⟩, .bool false] ((n + 1) * 3)) 27)
        go_wp2_with (first
          | (refine wpList_copySl (o := ⟨some 31, _, _, _, _, _⟩) (t := tVer) (ok := fun _ => False) (l := List.replicate n Ver.zero) (m := l) (w0 := w) w.heap.size rfl _ _ 23 23 27 rfl Try.underlying23 ?d1 ?d2 ?d3 HM.out (HS.out _ hb2) ?d4 hb2 ?_; (case d1 => exact (by kernel_rfl)); (case d2 => rfl); (case d3 => rfl); (case d4 => simp; omega); intro w2 hO2 hB2 hg2
             have e0 : w2.cell? ⟨w.heap.size, 0, none⟩ = some (.int .i64 v.at_) := hg2.cell (by rw [(bcell ((Below.refl w1.heap.size w1).alloc (Nat.le_refl _) _)).1 _ _ hz1]; exact c0) (by simp [Value.ownBlock]; omega)
             have e1 : w2.cell? ⟨w.heap.size, 1, none⟩ = some (.string v.val) := hg2.cell (by rw [(bcell ((Below.refl w1.heap.size w1).alloc (Nat.le_refl _) _)).1 _ _ hz1]; exact c1) (by simp [Value.ownBlock]; omega)
             have e2 : w2.cell? ⟨w.heap.size, 2, none⟩ = some (.bool v.dead) := hg2.cell (by rw [(bcell ((Below.refl w1.heap.size w1).alloc (Nat.le_refl _) _)).1 _ _ hz1]; exact c2) (by simp [Value.ownBlock]; omega)
             have hO3 := Lib.hid hO2
             clear hO2)
          | (refine wpList_app1 (o := ⟨some 35, _, _, _, _, _⟩) (t := tVer) (w0 := w) (cs := v.enc) (y := v) w.heap.size rfl _ _ 23 27 _ 32 rfl Try.underlying23 info27 rfl (by decide) (by decide) rfl rfl rfl hO3.out rfl hB2 ?c2 ?c3 ?_; (case c2 => have := hB2.size; omega); (case c3 => rw [hln]; omega); intro v1 w3 hO4 hB3 _ _))
        go_ret2
        exact ⟨_, by rw [HG.out]; rfl, by rw [put, HG.out]; exact hO4.unf.mono (fun b hb _ => hb), hB3⟩
    · have HG : Hid (canPut l v = false) := by rw [HC.out]; show _ = _; simp; omega
      have hd : decide (v.at_ ≤ la) = true := decide_eq_true (by omega)
      go_enter Try.func22, Try.ntmps22
      go_wp2_with fail
      refine wp_region_later (by kernel_rfl) (by kernel_rfl) ?_
      repeat (go_big_quiet_step (first | (go_at_call 9; exact calls_later (hG.out _ (later_from HB.out (by simp) _))) | (go_at_call 18; exact calls_later (hL.out _ (later_from HB.out (by simp) _))) | (go_at_call 26; exact calls_later (hR.out _))))
      refine wpQuiet_nil ?_
      rintro _ ⟨e, rfl⟩
      have hb := later_from HB.out (by simp) e
      generalize later _ e = w1 at *
      go_wp2
      go_ret2
      exact ⟨_, by rw [HG.out]; rfl, by rw [HG.out, put_no HG.out]; exact (H.out.below hb).mono (fun _ _ h => by cases h), hb⟩
end Go.Proofs.Ytdoigefmmjhjcaa
