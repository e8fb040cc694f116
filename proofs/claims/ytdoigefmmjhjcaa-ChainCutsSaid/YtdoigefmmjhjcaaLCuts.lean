import Derived.Test.YtdoigefmmjhjcaaW10
import Derived.Test.YtdoigefmmjhjcaaPure2
namespace Go.Proofs.Ytdoigefmmjhjcaa
open Go.RowKit

theorem getV_any (o : Option Ver) : getV o = .tuple #[.agg #[.int .i64 (o.getD Ver.zero).at_, .string (o.getD Ver.zero).val, .bool (o.getD Ver.zero).dead], .bool o.isSome] := rfl

set_option maxHeartbeats 2000000 in
theorem chainCuts_calls (l : List Ver) (A : Option Addr) (n cap : Nat) (x y : Int) (w : World) (hl : Sl tVer w (fun _ => True) (.slice A n cap) l) :
    Calls Try.prog 5 #[.slice A n cap, .int .i64 x, .int .i64 y] w fun e w' => e = .returned (.bool true) ∧ Below w.heap.size w w' := by
  obtain ⟨hln, hcap, hm⟩ := hl.length
  have H := Lib.hid hl
  clear hl
  have H9 : Hid (∀ W, Below w.heap.size w W → Calls Try.prog 9 #[.slice A n cap] W fun e w' => e = .returned (.bool (good l)) ∧ Below W.heap.size W w') := fun W h => good_calls l A n cap W (H.out.below h)
  by_cases hn : 300 < n
  · have hn' : (300 : Int) < (n : Int) := by omega
    go_enter Try.func5, Try.ntmps5
    go_wp2_with (go_at_call 10; refine (lives_calls _).mono ?_; rintro e w1 ⟨rfl, hb1⟩)
    go_ret
    exact ⟨rfl, hb1⟩
  · have hn' : ¬ (300 : Int) < (n : Int) := by omega
    cases hg : good l
    · rw [hg] at H9
      clear hg
      go_enter Try.func5, Try.ntmps5
      go_wp2_with fail
      refine (H9.out _ (Below.refl _ _)).mono ?_
      rintro e w1 ⟨rfl, hb1⟩
      go_wp2_with fail
      refine (lives_calls _).mono ?_
      rintro e w2 ⟨rfl, hb2⟩
      go_wp2
      go_ret
      exact ⟨rfl, hb1.trans (hb2.mono hb1.size)⟩
    · rw [hg] at H9
      have HG := Lib.hid hg
      clear hg
      by_cases hxy : x < y
      · go_enter Try.func5, Try.ntmps5
        go_wp2_with fail
        refine (H9.out _ (Below.refl _ _)).mono ?_
        rintro e w1 ⟨rfl, hb1⟩
        go_wp2_with fail
        refine (lives_calls _).mono ?_
        rintro e w2 ⟨rfl, hb2⟩
        go_wp2
        go_ret
        exact ⟨rfl, hb1.trans (hb2.mono hb1.size)⟩
      · go_enter Try.func5, Try.ntmps5
        go_wp2_with fail
        refine (H9.out _ (Below.refl _ _)).mono ?_
        rintro e w1 ⟨rfl, hb1⟩
        go_wp2_with fail
        -- x := c.Cut(n)
        refine (cut_calls l A n cap x _ (H.out.below hb1) (by omega)).mono ?_
        rintro e w2 ⟨v, rfl, hv, hb2⟩
        obtain ⟨B, cap', rfl, hcap', hcm', hcn'⟩ := hv.form
        have hT : Hid (Sl tVer w2 (fun _ => True) (.slice B (cut l x).length cap') (cut l x)) := hv.mono fun _ _ => trivial
        have hw2 := hb1.trans (hb2.mono hb1.size)
        have htl : (cut l x).length ≤ n := by rw [cut_len HG.out, ← hln]; exact upTo_le l x
        have ht1 := Lib.hid (get_cut HG.out hxy)
        have ht2 := Lib.hid (since_cut (n := x) HG.out)
        have ht3 := Lib.hid (cut_since (n := x) HG.out)
        have ht4 := Lib.hid (good_cut l x)
        have ht5 : Hid ((cut l x).length ≠ 0 → lastOf (cut l x) ≤ x) := last_cut HG.out
        clear hv hb1 hb2
        generalize htm : cut l x = tm at *
        clear htm
        generalize hmm : tm.length = mm at *
        have HMM := Lib.hid hmm
        clear hmm
        go_wp2_with fail
        refine (get_calls l A n cap y _ (H.out.below hw2) (by omega)).mono ?_
        rintro e w3 ⟨rfl, hb3⟩
        rw [getV_any]
        have hT3 := Lib.hid (hT.out.below hb3)
        have hw3 := hw2.trans (hb3.mono hw2.size)
        generalize get l y = o at *
        clear hT hb3
        go_wp2_with fail
        have hz3 := hw3.size
        have hw4 := hw3.alloc hz3 (.cells #[.int .i64 (o.getD Ver.zero).at_, .string (o.getD Ver.zero).val, .bool (o.getD Ver.zero).dead] 27)
        have hB4 := Lib.hid (Blk.new w3 #[.int .i64 (o.getD Ver.zero).at_, .string (o.getD Ver.zero).val, .bool (o.getD Ver.zero).dead] 27)
        have hT4 := Lib.hid (hT3.out.below ((Below.refl _ _).alloc (Nat.le_refl _) (.cells #[.int .i64 (o.getD Ver.zero).at_, .string (o.getD Ver.zero).val, .bool (o.getD Ver.zero).dead] 27)))
        generalize w3.alloc (.cells #[.int .i64 (o.getD Ver.zero).at_, .string (o.getD Ver.zero).val, .bool (o.getD Ver.zero).dead] 27) = w4 at *
        refine (get_calls tm B mm cap' y _ hT4.out (by omega)).mono ?_
        rw [ht1.out]
        rintro e w5 ⟨rfl, hb5⟩
        rw [getV_any]
        have hw5 := hw4.trans (hb5.mono hw4.size)
        have hB5 := Lib.hid (hB4.out.below hb5 hB4.out.lt)
        have hT5 := Lib.hid (hT4.out.below hb5)
        clear hT3 hT4 hB4 hb5
        have hsum : Hid ((mm : Int) + (since l x : Nat) = n) := by have := ht3.out; rw [hln] at this; show _ = _; omega
        have hsy : since l x ≤ n := by have := hsum.out; omega
        generalize hsy' : since l x = sy at *
        have HSY := Lib.hid hsy'
        clear hsy'
        generalize hlt' : lastOf tm = lt at *
        have HLT := Lib.hid hlt'
        clear hlt'
        by_cases hm0 : mm = 0
        · have heq : (((0 : Int) + sy) == (n : Int)) = true := by have := hsum.out; simp; omega
          have heq2 : ((sy : Int) == (n : Int)) = true := by have := hsum.out; simp; omega
          subst hm0
          obtain ⟨c0, c1, c2⟩ := hB5.out.three
          have hl5 : w3.heap.size < w5.heap.size := hB5.out.lt
          go_wp2_with fail
          clear c0 c1 c2
          have hz5 := hw5.size
          have hW := hw5.alloc hz5 (.cells #[.int .i64 (o.getD Ver.zero).at_, .string (o.getD Ver.zero).val, .bool (o.getD Ver.zero).dead] 27)
          have hB6 := hB5.out.alloc (.cells #[.int .i64 (o.getD Ver.zero).at_, .string (o.getD Ver.zero).val, .bool (o.getD Ver.zero).dead] 27)
          have hB7 := Blk.new w5 #[.int .i64 (o.getD Ver.zero).at_, .string (o.getD Ver.zero).val, .bool (o.getD Ver.zero).dead] 27
          have hT6 := Lib.hid (hT5.out.below ((Below.refl _ _).alloc (Nat.le_refl _) (.cells #[.int .i64 (o.getD Ver.zero).at_, .string (o.getD Ver.zero).val, .bool (o.getD Ver.zero).dead] 27)))
          have hl6 : w3.heap.size < (w5.alloc (.cells #[.int .i64 (o.getD Ver.zero).at_, .string (o.getD Ver.zero).val, .bool (o.getD Ver.zero).dead] 27)).heap.size := hB6.lt
          have hl7 : w5.heap.size < (w5.alloc (.cells #[.int .i64 (o.getD Ver.zero).at_, .string (o.getD Ver.zero).val, .bool (o.getD Ver.zero).dead] 27)).heap.size := hB7.lt
          generalize w5.alloc (.cells #[.int .i64 (o.getD Ver.zero).at_, .string (o.getD Ver.zero).val, .bool (o.getD Ver.zero).dead] 27) = w6 at *
          obtain ⟨c0, c1, c2⟩ := hB6.three
          obtain ⟨d0, d1, d2⟩ := hB7.three
          have hV : Below w6.heap.size w6 w6 := Below.refl _ _
          have hc := True.intro
          have K9 : Hid (∀ W, Below w6.heap.size w6 W → Calls Try.prog 9 #[.slice B 0 cap'] W fun e w' => e = .returned (.bool true) ∧ Below W.heap.size W w') := fun W h => by
            rw [← ht4.out]; exact good_calls tm B 0 cap' W (hT6.out.below h)
          have K13 : Hid (∀ W, Below w.heap.size w W → Calls Try.prog 13 #[.slice A n cap, .int .i64 x] W fun e w' => e = .returned (.int .i64 (sy : Nat)) ∧ Below W.heap.size W w') := fun W h => by rw [← HSY.out]; exact since_calls l A n cap x W (H.out.below h) (by omega)
          have L13 : Hid (∀ W, Below w6.heap.size w6 W → Calls Try.prog 13 #[.slice B 0 cap', .int .i64 x] W fun e w' => e = .returned (.int .i64 0) ∧ Below W.heap.size W w') := fun W h => by
            have := since_calls tm B 0 cap' x W (hT6.out.below h) (by omega)
            rw [ht2.out] at this; exact this
          have K18 : Hid (∀ W, Below w6.heap.size w6 W → Calls Try.prog 18 #[.slice B 0 cap'] W fun e w' => e = .returned (.int .i64 lt) ∧ Below W.heap.size W w') := fun W h => by rw [← HLT.out]; exact last_calls tm B 0 cap' W (hT6.out.below h)
          clear hB5 hB6 hB7 hT5
          refine (L13.out _ hV).mono ?_; rintro e w' ⟨rfl, hb'⟩; replace hW := hW.trans (hb'.mono hW.size); replace hV := hV.trans (hb'.mono hV.size); clear hb' hc; obtain ⟨hc, -⟩ := bcell hV
          go_wp2_with fail
          refine (K9.out _ hV).mono ?_; rintro e w' ⟨rfl, hb'⟩; replace hW := hW.trans (hb'.mono hW.size); replace hV := hV.trans (hb'.mono hV.size); clear hb' hc; obtain ⟨hc, -⟩ := bcell hV
          go_wp2_with fail
          refine (K13.out _ hW).mono ?_; rintro e w' ⟨rfl, hb'⟩; replace hW := hW.trans (hb'.mono hW.size); replace hV := hV.trans (hb'.mono hV.size); clear hb' hc; obtain ⟨hc, -⟩ := bcell hV
          go_wp2_with fail
          refine (lives_calls _).mono ?_
          rintro e w11 ⟨rfl, hb11⟩
          replace hW := hW.trans (hb11.mono hW.size)
          go_wp2
          go_ret
          exact ⟨rfl, hW⟩
        · have hm0' : ((mm : Int) == 0) = false := by simp; omega
          have heq : (((mm : Int) + sy) == (n : Int)) = true := by have := hsum.out; simp; omega
          have hla : lt ≤ x := ht5.out hm0
          obtain ⟨c0, c1, c2⟩ := hB5.out.three
          have hl5 : w3.heap.size < w5.heap.size := hB5.out.lt
          go_wp2_with fail
          clear c0 c1 c2
          have hz5 := hw5.size
          have hW := hw5.alloc hz5 (.cells #[.int .i64 (o.getD Ver.zero).at_, .string (o.getD Ver.zero).val, .bool (o.getD Ver.zero).dead] 27)
          have hB6 := hB5.out.alloc (.cells #[.int .i64 (o.getD Ver.zero).at_, .string (o.getD Ver.zero).val, .bool (o.getD Ver.zero).dead] 27)
          have hB7 := Blk.new w5 #[.int .i64 (o.getD Ver.zero).at_, .string (o.getD Ver.zero).val, .bool (o.getD Ver.zero).dead] 27
          have hT6 := Lib.hid (hT5.out.below ((Below.refl _ _).alloc (Nat.le_refl _) (.cells #[.int .i64 (o.getD Ver.zero).at_, .string (o.getD Ver.zero).val, .bool (o.getD Ver.zero).dead] 27)))
          have hl6 : w3.heap.size < (w5.alloc (.cells #[.int .i64 (o.getD Ver.zero).at_, .string (o.getD Ver.zero).val, .bool (o.getD Ver.zero).dead] 27)).heap.size := hB6.lt
          have hl7 : w5.heap.size < (w5.alloc (.cells #[.int .i64 (o.getD Ver.zero).at_, .string (o.getD Ver.zero).val, .bool (o.getD Ver.zero).dead] 27)).heap.size := hB7.lt
          generalize w5.alloc (.cells #[.int .i64 (o.getD Ver.zero).at_, .string (o.getD Ver.zero).val, .bool (o.getD Ver.zero).dead] 27) = w6 at *
          obtain ⟨c0, c1, c2⟩ := hB6.three
          obtain ⟨d0, d1, d2⟩ := hB7.three
          have hV : Below w6.heap.size w6 w6 := Below.refl _ _
          have hc := True.intro
          have K9 : Hid (∀ W, Below w6.heap.size w6 W → Calls Try.prog 9 #[.slice B mm cap'] W fun e w' => e = .returned (.bool true) ∧ Below W.heap.size W w') := fun W h => by
            rw [← ht4.out]; exact good_calls tm B mm cap' W (hT6.out.below h)
          have K13 : Hid (∀ W, Below w.heap.size w W → Calls Try.prog 13 #[.slice A n cap, .int .i64 x] W fun e w' => e = .returned (.int .i64 (sy : Nat)) ∧ Below W.heap.size W w') := fun W h => by rw [← HSY.out]; exact since_calls l A n cap x W (H.out.below h) (by omega)
          have L13 : Hid (∀ W, Below w6.heap.size w6 W → Calls Try.prog 13 #[.slice B mm cap', .int .i64 x] W fun e w' => e = .returned (.int .i64 0) ∧ Below W.heap.size W w') := fun W h => by
            have := since_calls tm B mm cap' x W (hT6.out.below h) (by omega)
            rw [ht2.out] at this; exact this
          have K18 : Hid (∀ W, Below w6.heap.size w6 W → Calls Try.prog 18 #[.slice B mm cap'] W fun e w' => e = .returned (.int .i64 lt) ∧ Below W.heap.size W w') := fun W h => by rw [← HLT.out]; exact last_calls tm B mm cap' W (hT6.out.below h)
          clear hB5 hB6 hB7 hT5
          refine (K18.out _ hV).mono ?_; rintro e w' ⟨rfl, hb'⟩; replace hW := hW.trans (hb'.mono hW.size); replace hV := hV.trans (hb'.mono hV.size); clear hb' hc; obtain ⟨hc, -⟩ := bcell hV
          go_wp2_with fail
          refine (L13.out _ hV).mono ?_; rintro e w' ⟨rfl, hb'⟩; replace hW := hW.trans (hb'.mono hW.size); replace hV := hV.trans (hb'.mono hV.size); clear hb' hc; obtain ⟨hc, -⟩ := bcell hV
          go_wp2_with fail
          refine (K9.out _ hV).mono ?_; rintro e w' ⟨rfl, hb'⟩; replace hW := hW.trans (hb'.mono hW.size); replace hV := hV.trans (hb'.mono hV.size); clear hb' hc; obtain ⟨hc, -⟩ := bcell hV
          go_wp2_with fail
          refine (K13.out _ hW).mono ?_; rintro e w' ⟨rfl, hb'⟩; replace hW := hW.trans (hb'.mono hW.size); replace hV := hV.trans (hb'.mono hV.size); clear hb' hc; obtain ⟨hc, -⟩ := bcell hV
          go_wp2_with fail
          refine (lives_calls _).mono ?_
          rintro e w11 ⟨rfl, hb11⟩
          replace hW := hW.trans (hb11.mono hW.size)
          go_wp2
          go_ret
          exact ⟨rfl, hW⟩

/-- The walk, as the row asks for it. -/
theorem chainCuts_row (W : World) (l : List Ver) (A : Option Addr) (n cap : Nat) (hl : Sl tVer W (fun _ => True) (.slice A n cap) l) (_ : ∀ x ∈ l, True) (x : Int) (_ : (Lit.int .i64 x).wf = true) (y : Int) (_ : (Lit.int .i64 y).wf = true) :
    Calls Try.prog 5 #[.slice A n cap, .int .i64 x, .int .i64 y] W fun e w' => e = .returned (.bool true) ∧ Below W.heap.size W w' := chainCuts_calls l A n cap x y W hl
end Go.Proofs.Ytdoigefmmjhjcaa
