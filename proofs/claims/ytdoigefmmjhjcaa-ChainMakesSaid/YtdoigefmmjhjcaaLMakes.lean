import Derived.Test.YtdoigefmmjhjcaaW10
import Derived.Test.YtdoigefmmjhjcaaPure2
namespace Go.Proofs.Ytdoigefmmjhjcaa
open Go.RowKit

set_option maxHeartbeats 2000000 in
theorem chainMakes_calls (l : List Ver) (v : Ver) (A : Option Addr) (n cap : Nat) (y : Int) (w : World) (hl : Sl tVer w (fun _ => True) (.slice A n cap) l) :
    Calls Try.prog 6 #[.slice A n cap, .agg #[.int .i64 v.at_, .string v.val, .bool v.dead], .int .i64 y] w fun e w' => e = .returned (.bool true) ∧ Below w.heap.size w w' := by
  obtain ⟨hln, hcap, hm⟩ := hl.length
  have H := Lib.hid hl
  clear hl
  have hb0 : Below w.heap.size w (w.alloc (.cells #[.int .i64 v.at_, .string v.val, .bool v.dead] 27)) := (Below.refl _ _).alloc (Nat.le_refl _) _
  have HB := Lib.hid hb0
  clear hb0
  by_cases hn : 300 < n
  · have hn' : (300 : Int) < (n : Int) := by omega
    go_enter Try.func6, Try.ntmps6
    go_wp2_with fail
    refine (lives_calls _).mono ?_
    rintro e w1 ⟨rfl, hb1⟩
    go_wp2
    go_ret
    exact ⟨rfl, HB.out.trans (hb1.mono HB.out.size)⟩
  · have hn' : ¬ (300 : Int) < (n : Int) := by omega
    go_enter Try.func6, Try.ntmps6
    go_wp2_with fail
    have hB0 := Lib.hid (Blk.new w #[.int .i64 v.at_, .string v.val, .bool v.dead] 27)
    have hX : Below (w.alloc (.cells #[.int .i64 v.at_, .string v.val, .bool v.dead] 27)).heap.size (w.alloc (.cells #[.int .i64 v.at_, .string v.val, .bool v.dead] 27)) (w.alloc (.cells #[.int .i64 v.at_, .string v.val, .bool v.dead] 27)) := Below.refl _ _
    have hW := HB.out
    clear HB
    generalize w.alloc (.cells #[.int .i64 v.at_, .string v.val, .bool v.dead] 27) = w0 at *
    -- p := plain(c)
    refine (plain_calls l A n cap _ (H.out.below hW) (by omega)).mono ?_
    rintro e w1 ⟨u, rfl, hu, hb1⟩
    obtain ⟨B, cap1, rfl, -⟩ := hu.form
    rw [hln] at hu ⊢
    replace hW := hW.trans (hb1.mono hW.size)
    replace hX := hX.trans (hb1.mono hX.size)
    have hP := Lib.hid (hu.mono (ok' := fun _ => True) fun _ _ => trivial)
    obtain ⟨c0, c1, c2⟩ := (hB0.out.below hX hB0.out.lt).three
    have hlt : w.heap.size < w1.heap.size := (hB0.out.below hX hB0.out.lt).lt
    clear hu hb1
    go_wp2_with fail
    -- x, ok := c.Put(v)
    refine (put_calls l v A n cap _ (H.out.below hW) (by omega)).mono ?_
    rintro e w2 ⟨u, rfl, hu, hb2⟩
    obtain ⟨C, cap2, rfl, -⟩ := hu.form
    replace hW := hW.trans (hb2.mono hW.size)
    replace hX := hX.trans (hb2.mono hX.size)
    have hQ := Lib.hid (hu.mono (ok' := fun _ => True) fun _ _ => trivial)
    have hP2 := Lib.hid (hP.out.below hb2)
    clear c0 c1 c2 hlt hP hu hb2
    obtain ⟨c0, c1, c2⟩ := (hB0.out.below hX hB0.out.lt).three
    have hlt : w.heap.size < w2.heap.size := (hB0.out.below hX hB0.out.lt).lt
    have hpl : (put l v).length ≤ 301 := by unfold put; split <;> first | (simp; omega) | omega
    generalize hpp : put l v = pp at *
    have HPP := Lib.hid hpp
    clear hpp
    generalize hpm : pp.length = pm at *
    have HPM := Lib.hid hpm
    clear hpm
    generalize hcp : canPut l v = ok at *
    have HCP := Lib.hid hcp
    clear hcp
    go_wp2_with fail
    -- y, is := Put(p, v)
    refine (rput_calls l v B n cap1 _ hP2.out (by omega)).mono ?_
    rw [HPP.out, HCP.out]
    rintro e w3 ⟨u, rfl, hu, hb3⟩
    obtain ⟨D, cap3, rfl, -⟩ := hu.form
    rw [HPM.out] at hu ⊢
    replace hW := hW.trans (hb3.mono hW.size)
    have hR := Lib.hid hu
    have hP3 := Lib.hid (hP2.out.below hb3)
    have hQ3 := Lib.hid (hQ.out.below hb3)
    clear c0 c1 c2 hlt hP2 hQ hu hb3 hX hB0
    go_wp2_with fail
    -- Same(plain(x), y)
    refine (plain_calls pp C pm cap2 _ hQ3.out (by omega)).mono ?_
    rintro e w4 ⟨u, rfl, hu, hb4⟩
    obtain ⟨E, cap4, rfl, -⟩ := hu.form
    rw [HPM.out] at hu ⊢
    replace hW := hW.trans (hb4.mono hW.size)
    have hR4 := Lib.hid (hR.out.below hb4)
    have hP4 := Lib.hid (hP3.out.below hb4)
    have hS := Lib.hid (hu.mono (ok' := fun _ => True) fun _ _ => trivial)
    clear hR hP3 hu hb4 hQ3
    go_wp2_with fail
    refine (same_calls pp E D _ _ cap4 cap3 _ hS.out hR4.out).mono ?_
    rintro e w5 ⟨rfl, hb5⟩
    replace hW := hW.trans (hb5.mono hW.size)
    have hP5 := Lib.hid (hP4.out.below hb5)
    clear hS hR4 hP4 hb5
    go_wp2_with fail
    -- Same(plain(c.Trim(n)), Trim(p, n))
    refine (trim_calls l A n cap y _ (H.out.below hW) (by omega)).mono ?_
    rintro e w6 ⟨u, rfl, hu, hb6⟩
    obtain ⟨F6, cap6, rfl, -⟩ := hu.form
    replace hW := hW.trans (hb6.mono hW.size)
    have hT := Lib.hid (hu.mono (ok' := fun _ => True) fun _ _ => trivial)
    have hP6 := Lib.hid (hP5.out.below hb6)
    have htl : (trim l y).length ≤ n := by rw [← hln]; exact trim_len_le l y
    clear hP5 hu hb6
    generalize htt : trim l y = tt at *
    have HTT := Lib.hid htt
    clear htt
    go_wp2_with fail
    refine (plain_calls tt F6 _ cap6 _ hT.out (by omega)).mono ?_
    rintro e w7 ⟨u, rfl, hu, hb7⟩
    obtain ⟨G7, cap7, rfl, -⟩ := hu.form
    replace hW := hW.trans (hb7.mono hW.size)
    have hU := Lib.hid (hu.mono (ok' := fun _ => True) fun _ _ => trivial)
    have hP7 := Lib.hid (hP6.out.below hb7)
    clear hT hu hb7 hP6
    go_wp2_with fail
    refine (rtrim_calls l B n cap1 y _ hP7.out (by omega)).mono ?_
    rintro e w8 ⟨u, rfl, hu, hb8⟩
    rw [HTT.out] at hu
    obtain ⟨J8, cap8, rfl, -⟩ := hu.form
    replace hW := hW.trans (hb8.mono hW.size)
    have hU2 := Lib.hid (hU.out.below hb8)
    have hP8 := Lib.hid (hP7.out.below hb8)
    have hT := Lib.hid (hu.mono (ok' := fun _ => True) fun _ _ => trivial)
    clear hU hu hb8 hP7
    go_wp2_with fail
    refine (same_calls tt G7 J8 _ _ cap7 cap8 _ hU2.out hT.out).mono ?_
    rintro e w9 ⟨rfl, hb9⟩
    replace hW := hW.trans (hb9.mono hW.size)
    have hP9 := Lib.hid (hP8.out.below hb9)
    clear hU2 hT hb9 hP8 htl HTT
    go_wp2_with fail
    -- Same(plain(c.Cut(n)), Cut(p, n))
    refine (cut_calls l A n cap y _ (H.out.below hW) (by omega)).mono ?_
    rintro e w10 ⟨u, rfl, hu, hb10⟩
    obtain ⟨F10, cap10, rfl, -⟩ := hu.form
    replace hW := hW.trans (hb10.mono hW.size)
    have hT := Lib.hid (hu.mono (ok' := fun _ => True) fun _ _ => trivial)
    have hP10 := Lib.hid (hP9.out.below hb10)
    have htl : (cut l y).length ≤ n := by rw [← hln]; exact (by unfold cut; split <;> simp; omega)
    clear hP9 hu hb10
    generalize htt : cut l y = tt at *
    have HTT := Lib.hid htt
    clear htt
    go_wp2_with fail
    refine (plain_calls tt F10 _ cap10 _ hT.out (by omega)).mono ?_
    rintro e w11 ⟨u, rfl, hu, hb11⟩
    obtain ⟨G11, cap11, rfl, -⟩ := hu.form
    replace hW := hW.trans (hb11.mono hW.size)
    have hU := Lib.hid (hu.mono (ok' := fun _ => True) fun _ _ => trivial)
    have hP11 := Lib.hid (hP10.out.below hb11)
    clear hT hu hb11 hP10
    go_wp2_with fail
    refine (rcut_calls l B n cap1 y _ hP11.out (by omega)).mono ?_
    rintro e w12 ⟨u, rfl, hu, hb12⟩
    rw [HTT.out] at hu
    obtain ⟨J12, cap12, rfl, -⟩ := hu.form
    replace hW := hW.trans (hb12.mono hW.size)
    have hU2 := Lib.hid (hU.out.below hb12)
    have hP12 := Lib.hid (hP11.out.below hb12)
    have hT := Lib.hid (hu.mono (ok' := fun _ => True) fun _ _ => trivial)
    clear hU hu hb12 hP11
    go_wp2_with fail
    refine (same_calls tt G11 J12 _ _ cap11 cap12 _ hU2.out hT.out).mono ?_
    rintro e w13 ⟨rfl, hb13⟩
    replace hW := hW.trans (hb13.mono hW.size)
    have hP13 := Lib.hid (hP12.out.below hb13)
    clear hU2 hT hb13 hP12 htl HTT
    go_wp2_with fail
    refine (lives_calls _).mono ?_
    rintro e w14 ⟨rfl, hb14⟩
    replace hW := hW.trans (hb14.mono hW.size)
    go_wp2
    go_ret
    exact ⟨rfl, hW⟩

/-- The walk, as the row asks for it. -/
theorem chainMakes_row (W : World) (l : List Ver) (A : Option Addr) (n cap : Nat) (hl : Sl tVer W (fun _ => True) (.slice A n cap) l) (_ : ∀ x ∈ l, True) (v : Ver) (cs : Array Value) (hv : tVer.K W (fun _ => True) v cs.toList) (_ : True) (y : Int) (_ : (Lit.int .i64 y).wf = true) :
    Calls Try.prog 6 #[.slice A n cap, .agg cs, .int .i64 y] W fun e w' => e = .returned (.bool true) ∧ Below W.heap.size W w' := by
  have hc : cs = #[.int .i64 v.at_, .string v.val, .bool v.dead] := by
    have h : cs.toList = v.enc := hv
    rw [← Array.toArray_toList (xs := cs), h]; rfl
  rw [hc]
  exact chainMakes_calls l v A n cap y W hl
end Go.Proofs.Ytdoigefmmjhjcaa
