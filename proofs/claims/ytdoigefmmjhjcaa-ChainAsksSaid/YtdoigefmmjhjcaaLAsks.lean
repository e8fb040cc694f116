import Derived.Test.YtdoigefmmjhjcaaW10
namespace Go.Proofs.Ytdoigefmmjhjcaa
open Go.RowKit

theorem getV_any (o : Option Ver) : getV o = .tuple #[.agg #[.int .i64 (o.getD Ver.zero).at_, .string (o.getD Ver.zero).val, .bool (o.getD Ver.zero).dead], .bool o.isSome] := rfl

set_option maxHeartbeats 2000000 in
theorem chainAsks_calls (l : List Ver) (A : Option Addr) (n cap : Nat) (x : Int) (w : World) (hl : Sl tVer w (fun _ => True) (.slice A n cap) l) :
    Calls Try.prog 4 #[.slice A n cap, .int .i64 x] w fun e w' => e = .returned (.bool true) ∧ Below w.heap.size w w' := by
  obtain ⟨hln, hcap, hm⟩ := hl.length
  have H := Lib.hid hl
  clear hl
  by_cases hn : 300 < n
  · have hn' : (300 : Int) < (n : Int) := by omega
    go_enter Try.func4, Try.ntmps4
    go_wp2_with (go_at_call 10; refine (lives_calls _).mono ?_; rintro e w1 ⟨rfl, hb1⟩)
    go_ret
    exact ⟨rfl, hb1⟩
  · go_enter Try.func4, Try.ntmps4
    go_wp2_with fail
    refine (plain_calls l A n cap _ H.out (by omega)).mono ?_
    rintro e w1 ⟨p, rfl, hp, hb1⟩
    obtain ⟨B, cap', rfl, hcap', hcm', hcn'⟩ := hp.form
    rw [hln] at hp hcap' ⊢
    have HP : Hid (Sl tVer w1 (fun _ => True) (.slice B n cap') l) := hp.mono fun _ _ => trivial
    clear hp
    go_wp2_with fail
    refine (get_calls l A n cap x _ (H.out.below hb1) (by omega)).mono ?_
    rintro e w2 ⟨rfl, hb2⟩
    have hw2 := hb1.trans (hb2.mono hb1.size)
    have HP2 := Lib.hid (HP.out.below hb2)
    clear HP hb1 hb2
    rw [getV_any]
    have HG : Hid (∀ (B : Option Addr) (cap' : Nat) (W : World), Sl tVer W (fun _ => True) (.slice B n cap') l → Calls Try.prog 16 #[.slice B n cap', .int .i64 x] W fun e w' => e = .returned (getV (get l x)) ∧ Below W.heap.size W w') := fun B cap' W h => rget_calls l B n cap' x W h
    generalize get l x = o at *
    have hz2 : w.heap.size ≤ w2.heap.size := hw2.size
    go_wp2_with fail
    have hw3 := hw2.alloc hz2 (.cells #[.int .i64 (o.getD Ver.zero).at_, .string (o.getD Ver.zero).val, .bool (o.getD Ver.zero).dead] 27)
    have HB3 := Lib.hid (Blk.new w2 #[.int .i64 (o.getD Ver.zero).at_, .string (o.getD Ver.zero).val, .bool (o.getD Ver.zero).dead] 27)
    have HP3 := Lib.hid (HP2.out.below ((Below.refl _ _).alloc (Nat.le_refl _) (.cells #[.int .i64 (o.getD Ver.zero).at_, .string (o.getD Ver.zero).val, .bool (o.getD Ver.zero).dead] 27)))
    have hz3 : w2.heap.size < (w2.alloc (.cells #[.int .i64 (o.getD Ver.zero).at_, .string (o.getD Ver.zero).val, .bool (o.getD Ver.zero).dead] 27)).heap.size := by simp
    generalize w2.alloc (.cells #[.int .i64 (o.getD Ver.zero).at_, .string (o.getD Ver.zero).val, .bool (o.getD Ver.zero).dead] 27) = w3 at *
    refine (HG.out _ _ _ HP3.out).mono ?_
    rintro e w4 ⟨rfl, hb4⟩
    rw [getV_any]
    have hw4 := hw3.trans (hb4.mono hw3.size)
    have hz4 := hb4.size
    have HP4 := Lib.hid (HP3.out.below hb4)
    have HB4 := Lib.hid (HB3.out.below hb4 hz3)
    clear HP2 HP3 HB3 hb4
    go_wp2_with fail
    have hz5 : w.heap.size ≤ w4.heap.size := hw4.size
    have hW := hw4.alloc hz5 (.cells #[.int .i64 (o.getD Ver.zero).at_, .string (o.getD Ver.zero).val, .bool (o.getD Ver.zero).dead] 35)
    have HB5 := HB4.out.alloc (.cells #[.int .i64 (o.getD Ver.zero).at_, .string (o.getD Ver.zero).val, .bool (o.getD Ver.zero).dead] 35)
    have HB6 := Blk.new w4 #[.int .i64 (o.getD Ver.zero).at_, .string (o.getD Ver.zero).val, .bool (o.getD Ver.zero).dead] 35
    have HP5 := Lib.hid (HP4.out.below ((Below.refl _ _).alloc (Nat.le_refl _) (.cells #[.int .i64 (o.getD Ver.zero).at_, .string (o.getD Ver.zero).val, .bool (o.getD Ver.zero).dead] 35)))
    have hz6 : w4.heap.size < (w4.alloc (.cells #[.int .i64 (o.getD Ver.zero).at_, .string (o.getD Ver.zero).val, .bool (o.getD Ver.zero).dead] 35)).heap.size := by simp
    generalize w4.alloc (.cells #[.int .i64 (o.getD Ver.zero).at_, .string (o.getD Ver.zero).val, .bool (o.getD Ver.zero).dead] 35) = w5 at *
    obtain ⟨c0, c1, c2⟩ := HB5.three
    obtain ⟨d0, d1, d2⟩ := HB6.three
    have hV : Below w5.heap.size w5 w5 := Below.refl _ _
    have hc := True.intro
    have hzz : w2.heap.size < w5.heap.size := by omega
    have H9 : Hid (∀ W, Below w.heap.size w W → Calls Try.prog 9 #[.slice A n cap] W fun e w' => e = .returned (.bool (good l)) ∧ Below W.heap.size W w') := fun W h => good_calls l A n cap W (H.out.below h)
    have H17 : Hid (∀ W, Below w5.heap.size w5 W → Calls Try.prog 17 #[.slice B n cap'] W fun e w' => e = .returned (.bool (good l)) ∧ Below W.heap.size W w') := fun W h => rgood_calls l B n cap' W (HP5.out.below h)
    have H18 : Hid (∀ W, Below w.heap.size w W → Calls Try.prog 18 #[.slice A n cap] W fun e w' => e = .returned (.int .i64 (lastOf l)) ∧ Below W.heap.size W w') := fun W h => last_calls l A n cap W (H.out.below h)
    have H19 : Hid (∀ W, Below w5.heap.size w5 W → Calls Try.prog 19 #[.slice B n cap'] W fun e w' => e = .returned (.int .i64 (lastOf l)) ∧ Below W.heap.size W w') := fun W h => rlast_calls l B n cap' W (HP5.out.below h)
    have H13 : Hid (∀ W, Below w.heap.size w W → Calls Try.prog 13 #[.slice A n cap, .int .i64 x] W fun e w' => e = .returned (.int .i64 (since l x : Nat)) ∧ Below W.heap.size W w') := fun W h => since_calls l A n cap x W (H.out.below h) (by omega)
    have H20 : Hid (∀ W, Below w5.heap.size w5 W → Calls Try.prog 20 #[.slice B n cap', .int .i64 x] W fun e w' => e = .returned (.int .i64 (since l x : Nat)) ∧ Below W.heap.size W w') := fun W h => rsince_calls l B n cap' x W (HP5.out.below h)
    clear HB4 HP4 HB5 HB6 HG
    go_wp2_with (first | (go_at_call 9; refine (H9.out _ hW).mono ?_; rintro e w' ⟨rfl, hb'⟩; replace hW := hW.trans (hb'.mono hW.size); replace hV := hV.trans (hb'.mono hV.size); clear hb' hc; obtain ⟨hc, -⟩ := bcell hV) | (go_at_call 17; refine (H17.out _ hV).mono ?_; rintro e w' ⟨rfl, hb'⟩; replace hW := hW.trans (hb'.mono hW.size); replace hV := hV.trans (hb'.mono hV.size); clear hb' hc; obtain ⟨hc, -⟩ := bcell hV) | (go_at_call 18; refine (H18.out _ hW).mono ?_; rintro e w' ⟨rfl, hb'⟩; replace hW := hW.trans (hb'.mono hW.size); replace hV := hV.trans (hb'.mono hV.size); clear hb' hc; obtain ⟨hc, -⟩ := bcell hV) | (go_at_call 19; refine (H19.out _ hV).mono ?_; rintro e w' ⟨rfl, hb'⟩; replace hW := hW.trans (hb'.mono hW.size); replace hV := hV.trans (hb'.mono hV.size); clear hb' hc; obtain ⟨hc, -⟩ := bcell hV) | (go_at_call 13; refine (H13.out _ hW).mono ?_; rintro e w' ⟨rfl, hb'⟩; replace hW := hW.trans (hb'.mono hW.size); replace hV := hV.trans (hb'.mono hV.size); clear hb' hc; obtain ⟨hc, -⟩ := bcell hV) | (go_at_call 20; refine (H20.out _ hV).mono ?_; rintro e w' ⟨rfl, hb'⟩; replace hW := hW.trans (hb'.mono hW.size); replace hV := hV.trans (hb'.mono hV.size); clear hb' hc; obtain ⟨hc, -⟩ := bcell hV) | (go_at_call 10; refine (lives_calls _).mono ?_; rintro e w' ⟨rfl, hb'⟩; replace hW := hW.trans (hb'.mono hW.size); replace hV := hV.trans (hb'.mono hV.size); clear hb' hc; obtain ⟨hc, -⟩ := bcell hV))
    go_ret
    exact ⟨rfl, hW⟩
/-- The walk, as the row asks for it. -/
theorem chainAsks_row (W : World) (l : List Ver) (A : Option Addr) (n cap : Nat) (hl : Sl tVer W (fun _ => True) (.slice A n cap) l) (_ : ∀ x ∈ l, True) (x : Int) (_ : (Lit.int .i64 x).wf = true) :
    Calls Try.prog 4 #[.slice A n cap, .int .i64 x] W fun e w' => e = .returned (.bool true) ∧ Below W.heap.size W w' := chainAsks_calls l A n cap x W hl
end Go.Proofs.Ytdoigefmmjhjcaa
