import Derived.Test.YtdoigefmmjhjcaaW10
import Derived.Test.YtdoigefmmjhjcaaPure3
namespace Go.Proofs.Ytdoigefmmjhjcaa
open Go.RowKit

theorem getV_any (o : Option Ver) : getV o = .tuple #[.agg #[.int .i64 (o.getD Ver.zero).at_, .string (o.getD Ver.zero).val, .bool (o.getD Ver.zero).dead], .bool o.isSome] := rfl

set_option maxHeartbeats 2000000 in
theorem puts_no (l : List Ver) (va : Int) (vs : ByteArray) (vd : Bool) (A : Option Addr) (n cap : Nat) (y : Int) (w : World) (hl : Sl tVer w (fun _ => True) (.slice A n cap) l) (hn : ¬ (300 : Int) < (n : Int)) (hno : canPut l ⟨va, vs, vd⟩ = false) :
    Calls Try.prog 7 #[.slice A n cap, .agg #[.int .i64 va, .string vs, .bool vd], .int .i64 y] w fun e w' => e = .returned (.bool true) ∧ Below w.heap.size w w' := by
  obtain ⟨hln, hcap, hm⟩ := hl.length
  have H := Lib.hid hl
  clear hl
  have hb0 : Below w.heap.size w (w.alloc (.cells #[.int .i64 va, .string vs, .bool vd] 27)) := (Below.refl _ _).alloc (Nat.le_refl _) _
  have HB := Lib.hid hb0
  clear hb0
  have HNO := Lib.hid hno
  clear hno
  go_enter Try.func7, Try.ntmps7
  go_wp2_with fail
  have hB0 := Lib.hid (Blk.new w #[.int .i64 va, .string vs, .bool vd] 27)
  have hX : Below (w.alloc (.cells #[.int .i64 va, .string vs, .bool vd] 27)).heap.size (w.alloc (.cells #[.int .i64 va, .string vs, .bool vd] 27)) (w.alloc (.cells #[.int .i64 va, .string vs, .bool vd] 27)) := Below.refl _ _
  have hW := HB.out
  clear HB
  generalize w.alloc (.cells #[.int .i64 va, .string vs, .bool vd] 27) = w0 at *
  -- was := plain(c)
  refine (plain_calls l A n cap _ (H.out.below hW) (by omega)).mono ?_
  rintro e w1 ⟨u, rfl, hu, hb1⟩
  obtain ⟨B, cap1, rfl, -⟩ := hu.form
  rw [hln] at hu ⊢
  replace hW := hW.trans (hb1.mono hW.size)
  replace hX := hX.trans (hb1.mono hX.size)
  have hP := Lib.hid (hu.mono (ok' := fun _ => True) fun _ _ => trivial)
  obtain ⟨c0, c1, c2⟩ := (hB0.out.below hX hB0.out.lt).three
  have hlt : w.heap.size < w1.heap.size := (hB0.out.below hX hB0.out.lt).lt
  clear hu hb1
  go_wp2_with fail
  -- x, ok := c.Put(v)
  refine (put_calls l ⟨va, vs, vd⟩ A n cap _ (H.out.below hW) (by omega)).mono ?_
  rintro e w2 ⟨u, rfl, hu, hb2⟩
  rw [HNO.out] at hu ⊢
  rw [put_no HNO.out] at hu
  obtain ⟨C, cap2, rfl, -⟩ := hu.form
  rw [hln] at hu ⊢
  replace hW := hW.trans (hb2.mono hW.size)
  have hQ := Lib.hid (hu.mono (ok' := fun _ => True) fun _ _ => trivial)
  have hP2 := Lib.hid (hP.out.below hb2)
  clear c0 c1 c2 hlt hP hu hb2 hX hB0
  go_wp2_with fail
  refine (plain_calls l C n cap2 _ hQ.out (by omega)).mono ?_
  rintro e w3 ⟨u, rfl, hu, hb3⟩
  obtain ⟨D, cap3, rfl, -⟩ := hu.form
  rw [hln] at hu ⊢
  replace hW := hW.trans (hb3.mono hW.size)
  have hR := Lib.hid (hu.mono (ok' := fun _ => True) fun _ _ => trivial)
  have hP3 := Lib.hid (hP2.out.below hb3)
  clear hP2 hu hb3 hQ
  go_wp2_with fail
  refine (same_calls l D B _ _ cap3 cap1 _ hR.out hP3.out).mono ?_
  rintro e w4 ⟨rfl, hb4⟩
  replace hW := hW.trans (hb4.mono hW.size)
  clear hR hP3 hb4
  go_wp2_with fail
  refine (lives_calls _).mono ?_
  rintro e w5 ⟨rfl, hb5⟩
  replace hW := hW.trans (hb5.mono hW.size)
  go_wp2
  go_ret
  exact ⟨rfl, hW⟩

set_option maxHeartbeats 2000000 in
theorem puts_yes_false_ahead (l : List Ver) (va : Int) (vs : ByteArray) (A : Option Addr) (n cap : Nat) (y : Int) (w : World) (hl : Sl tVer w (fun _ => True) (.slice A n cap) l) (hn : ¬ (300 : Int) < (n : Int)) (hyes : canPut l ⟨va, vs, false⟩ = true) (hy : y < va) :
    Calls Try.prog 7 #[.slice A n cap, .agg #[.int .i64 va, .string vs, .bool false], .int .i64 y] w fun e w' => e = .returned (.bool true) ∧ Below w.heap.size w w' := by
  obtain ⟨hln, hcap, hm⟩ := hl.length
  have H := Lib.hid hl
  clear hl
  have hb0 : Below w.heap.size w (w.alloc (.cells #[.int .i64 va, .string vs, .bool false] 27)) := (Below.refl _ _).alloc (Nat.le_refl _) _
  have HB := Lib.hid hb0
  clear hb0
  have HNO := Lib.hid hyes
  have ht1 := Lib.hid (get_put hyes)
  have ht2 := Lib.hid (get_put_ahead hyes hy)
  have ht3 := Lib.hid (lastOf_snoc hyes)
  have ht4 := Lib.hid (good_snoc hyes)
  have ht5 := Lib.hid (cut_put hyes)
  have ht6 := Lib.hid (put_yes hyes)
  clear hyes
  go_enter Try.func7, Try.ntmps7
  go_wp2_with fail
  have hB0 := Lib.hid (Blk.new w #[.int .i64 va, .string vs, .bool false] 27)
  have hX : Below (w.alloc (.cells #[.int .i64 va, .string vs, .bool false] 27)).heap.size (w.alloc (.cells #[.int .i64 va, .string vs, .bool false] 27)) (w.alloc (.cells #[.int .i64 va, .string vs, .bool false] 27)) := Below.refl _ _
  have hW := HB.out
  clear HB
  generalize w.alloc (.cells #[.int .i64 va, .string vs, .bool false] 27) = w0 at *
  -- was := plain(c)
  refine (plain_calls l A n cap _ (H.out.below hW) (by omega)).mono ?_
  rintro e w1 ⟨u, rfl, hu, hb1⟩
  obtain ⟨B, cap1, rfl, -⟩ := hu.form
  rw [hln] at hu ⊢
  replace hW := hW.trans (hb1.mono hW.size)
  replace hX := hX.trans (hb1.mono hX.size)
  have hP := Lib.hid (hu.mono (ok' := fun _ => True) fun _ _ => trivial)
  obtain ⟨c0, c1, c2⟩ := (hB0.out.below hX hB0.out.lt).three
  have hlt : w.heap.size < w1.heap.size := (hB0.out.below hX hB0.out.lt).lt
  clear hu hb1
  go_wp2_with fail
  -- x, ok := c.Put(v)
  refine (put_calls l ⟨va, vs, false⟩ A n cap _ (H.out.below hW) (by omega)).mono ?_
  rintro e w2 ⟨u, rfl, hu, hb2⟩
  rw [HNO.out] at hu ⊢
  rw [ht6.out] at hu
  have hpl : (l ++ [(⟨va, vs, false⟩ : Ver)]).length = n + 1 := by simp [hln]
  have HPL := Lib.hid hpl
  clear hpl
  generalize l ++ [(⟨va, vs, false⟩ : Ver)] = pp at *
  obtain ⟨C, cap2, rfl, -⟩ := hu.form
  rw [HPL.out] at hu ⊢
  replace hW := hW.trans (hb2.mono hW.size)
  replace hX := hX.trans (hb2.mono hX.size)
  have hQ := Lib.hid (hu.mono (ok' := fun _ => True) fun _ _ => trivial)
  have hP2 := Lib.hid (hP.out.below hb2)
  clear c0 c1 c2 hlt hP hu hb2
  obtain ⟨c0, c1, c2⟩ := (hB0.out.below hX hB0.out.lt).three
  have hlt : w.heap.size < w2.heap.size := (hB0.out.below hX hB0.out.lt).lt
  go_wp2_with fail
  -- a, has := x.Get(v.At)
  refine (get_calls pp C (n + 1) cap2 va _ hQ.out (by omega)).mono ?_
  rw [show get pp va = _ from ht1.out]
  rintro e w3 ⟨rfl, hb3⟩
  rw [show getV (live (some ⟨va, vs, false⟩)) = .tuple #[.agg #[.int .i64 va, .string vs, .bool false], .bool true] from rfl]
  replace hW := hW.trans (hb3.mono hW.size)
  replace hX := hX.trans (hb3.mono hX.size)
  have hP3 := Lib.hid (hP2.out.below hb3)
  have hQ3 := Lib.hid (hQ.out.below hb3)
  clear c0 c1 c2 hlt hP2 hQ hb3
  go_wp2_with fail
  have hz := hW.size
  replace hW := hW.alloc hz (.cells #[.int .i64 va, .string vs, .bool false] 27)
  have hz := hX.size
  have hBa := Lib.hid (Blk.new w3 #[.int .i64 va, .string vs, .bool false] 27)
  have hV : Below (w3.alloc (.cells #[.int .i64 va, .string vs, .bool false] 27)).heap.size (w3.alloc (.cells #[.int .i64 va, .string vs, .bool false] 27)) (w3.alloc (.cells #[.int .i64 va, .string vs, .bool false] 27)) := Below.refl _ _
  replace hX := hX.alloc hz (.cells #[.int .i64 va, .string vs, .bool false] 27)
  have hP4 := Lib.hid (hP3.out.below ((Below.refl _ _).alloc (Nat.le_refl _) (.cells #[.int .i64 va, .string vs, .bool false] 27)))
  have hQ4 := Lib.hid (hQ3.out.below ((Below.refl _ _).alloc (Nat.le_refl _) (.cells #[.int .i64 va, .string vs, .bool false] 27)))
  clear hz hP3 hQ3
  generalize w3.alloc (.cells #[.int .i64 va, .string vs, .bool false] 27) = w4 at *
  -- b, had := c.Get(n)
  refine (get_calls l A n cap y _ (H.out.below hW) (by omega)).mono ?_
  rintro e w5 ⟨rfl, hb5⟩
  rw [getV_any]
  generalize get l y = o at *
  replace hW := hW.trans (hb5.mono hW.size)
  replace hX := hX.trans (hb5.mono hX.size)
  replace hV := hV.trans (hb5.mono hV.size)
  have hP5 := Lib.hid (hP4.out.below hb5)
  have hQ5 := Lib.hid (hQ4.out.below hb5)
  clear hb5 hP4 hQ4
  go_wp2_with fail
  have hz := hW.size
  replace hW := hW.alloc hz (.cells #[.int .i64 (o.getD Ver.zero).at_, .string (o.getD Ver.zero).val, .bool (o.getD Ver.zero).dead] 27)
  have hz := hX.size
  replace hX := hX.alloc hz (.cells #[.int .i64 (o.getD Ver.zero).at_, .string (o.getD Ver.zero).val, .bool (o.getD Ver.zero).dead] 27)
  have hz := hV.size
  replace hV := hV.alloc hz (.cells #[.int .i64 (o.getD Ver.zero).at_, .string (o.getD Ver.zero).val, .bool (o.getD Ver.zero).dead] 27)
  have hBo := Lib.hid (Blk.new w5 #[.int .i64 (o.getD Ver.zero).at_, .string (o.getD Ver.zero).val, .bool (o.getD Ver.zero).dead] 27)
  have hU : Below (w5.alloc (.cells #[.int .i64 (o.getD Ver.zero).at_, .string (o.getD Ver.zero).val, .bool (o.getD Ver.zero).dead] 27)).heap.size (w5.alloc (.cells #[.int .i64 (o.getD Ver.zero).at_, .string (o.getD Ver.zero).val, .bool (o.getD Ver.zero).dead] 27)) (w5.alloc (.cells #[.int .i64 (o.getD Ver.zero).at_, .string (o.getD Ver.zero).val, .bool (o.getD Ver.zero).dead] 27)) := Below.refl _ _
  have hP6 := Lib.hid (hP5.out.below ((Below.refl _ _).alloc (Nat.le_refl _) (.cells #[.int .i64 (o.getD Ver.zero).at_, .string (o.getD Ver.zero).val, .bool (o.getD Ver.zero).dead] 27)))
  have hQ6 := Lib.hid (hQ5.out.below ((Below.refl _ _).alloc (Nat.le_refl _) (.cells #[.int .i64 (o.getD Ver.zero).at_, .string (o.getD Ver.zero).val, .bool (o.getD Ver.zero).dead] 27)))
  clear hz hP5 hQ5
  generalize w5.alloc (.cells #[.int .i64 (o.getD Ver.zero).at_, .string (o.getD Ver.zero).val, .bool (o.getD Ver.zero).dead] 27) = w6 at *
  -- d, now := x.Get(n)
  refine (get_calls pp C (n + 1) cap2 y _ hQ6.out (by omega)).mono ?_
  rw [ht2.out]
  rintro e w7 ⟨rfl, hb7⟩
  rw [getV_any]
  replace hW := hW.trans (hb7.mono hW.size)
  replace hX := hX.trans (hb7.mono hX.size)
  replace hV := hV.trans (hb7.mono hV.size)
  replace hU := hU.trans (hb7.mono hU.size)
  have hP7 := Lib.hid (hP6.out.below hb7)
  have hQ7 := Lib.hid (hQ6.out.below hb7)
  clear hb7 hP6 hQ6
  have hz := hW.size
  have hW8 := hW.alloc hz (.cells #[.int .i64 (o.getD Ver.zero).at_, .string (o.getD Ver.zero).val, .bool (o.getD Ver.zero).dead] 27)
  have hz := hX.size
  have hX8 := hX.alloc hz (.cells #[.int .i64 (o.getD Ver.zero).at_, .string (o.getD Ver.zero).val, .bool (o.getD Ver.zero).dead] 27)
  have hz := hV.size
  have hV8 := hV.alloc hz (.cells #[.int .i64 (o.getD Ver.zero).at_, .string (o.getD Ver.zero).val, .bool (o.getD Ver.zero).dead] 27)
  have hz := hU.size
  have hU8 := hU.alloc hz (.cells #[.int .i64 (o.getD Ver.zero).at_, .string (o.getD Ver.zero).val, .bool (o.getD Ver.zero).dead] 27)
  have hBd := Lib.hid (Blk.new w7 #[.int .i64 (o.getD Ver.zero).at_, .string (o.getD Ver.zero).val, .bool (o.getD Ver.zero).dead] 27)
  have hS8 : Below (w7.alloc (.cells #[.int .i64 (o.getD Ver.zero).at_, .string (o.getD Ver.zero).val, .bool (o.getD Ver.zero).dead] 27)).heap.size (w7.alloc (.cells #[.int .i64 (o.getD Ver.zero).at_, .string (o.getD Ver.zero).val, .bool (o.getD Ver.zero).dead] 27)) (w7.alloc (.cells #[.int .i64 (o.getD Ver.zero).at_, .string (o.getD Ver.zero).val, .bool (o.getD Ver.zero).dead] 27)) := Below.refl _ _
  have hP8 := Lib.hid (hP7.out.below ((Below.refl _ _).alloc (Nat.le_refl _) (.cells #[.int .i64 (o.getD Ver.zero).at_, .string (o.getD Ver.zero).val, .bool (o.getD Ver.zero).dead] 27)))
  have hQ8 := Lib.hid (hQ7.out.below ((Below.refl _ _).alloc (Nat.le_refl _) (.cells #[.int .i64 (o.getD Ver.zero).at_, .string (o.getD Ver.zero).val, .bool (o.getD Ver.zero).dead] 27)))
  clear hz hP7 hQ7
  have hL : Hid (∀ W, Below (w7.alloc (.cells #[.int .i64 (o.getD Ver.zero).at_, .string (o.getD Ver.zero).val, .bool (o.getD Ver.zero).dead] 27)).heap.size (w7.alloc (.cells #[.int .i64 (o.getD Ver.zero).at_, .string (o.getD Ver.zero).val, .bool (o.getD Ver.zero).dead] 27)) W → Calls Try.prog 18 #[.slice C (n + 1) cap2] W fun e w' => e = .returned (.int .i64 va) ∧ Below W.heap.size W w') := fun W h => by
    rw [show va = lastOf pp from ht3.out.symm]; exact last_calls pp C (n + 1) cap2 W (hQ8.out.below h)
  have hG : Hid (∀ W, Below (w7.alloc (.cells #[.int .i64 (o.getD Ver.zero).at_, .string (o.getD Ver.zero).val, .bool (o.getD Ver.zero).dead] 27)).heap.size (w7.alloc (.cells #[.int .i64 (o.getD Ver.zero).at_, .string (o.getD Ver.zero).val, .bool (o.getD Ver.zero).dead] 27)) W → Calls Try.prog 9 #[.slice C (n + 1) cap2] W fun e w' => e = .returned (.bool true) ∧ Below W.heap.size W w') := fun W h => by
    rw [← ht4.out]; exact good_calls pp C (n + 1) cap2 W (hQ8.out.below h)
  clear hW hX hV hU
  obtain ⟨c0, c1, c2⟩ := (hB0.out.below hX8 hB0.out.lt).three
  have hl0 : w.heap.size < (w7.alloc (.cells #[.int .i64 (o.getD Ver.zero).at_, .string (o.getD Ver.zero).val, .bool (o.getD Ver.zero).dead] 27)).heap.size := (hB0.out.below hX8 hB0.out.lt).lt
  obtain ⟨d0, d1, d2⟩ := (hBa.out.below hV8 hBa.out.lt).three
  have hl1 : w3.heap.size < (w7.alloc (.cells #[.int .i64 (o.getD Ver.zero).at_, .string (o.getD Ver.zero).val, .bool (o.getD Ver.zero).dead] 27)).heap.size := (hBa.out.below hV8 hBa.out.lt).lt
  obtain ⟨e0, e1, e2⟩ := (hBo.out.below hU8 hBo.out.lt).three
  have hl2 : w5.heap.size < (w7.alloc (.cells #[.int .i64 (o.getD Ver.zero).at_, .string (o.getD Ver.zero).val, .bool (o.getD Ver.zero).dead] 27)).heap.size := (hBo.out.below hU8 hBo.out.lt).lt
  obtain ⟨f0, f1, f2⟩ := hBd.out.three
  have hl3 : w7.heap.size < (w7.alloc (.cells #[.int .i64 (o.getD Ver.zero).at_, .string (o.getD Ver.zero).val, .bool (o.getD Ver.zero).dead] 27)).heap.size := hBd.out.lt
  go_wp2_with fail
  generalize w7.alloc (.cells #[.int .i64 (o.getD Ver.zero).at_, .string (o.getD Ver.zero).val, .bool (o.getD Ver.zero).dead] 27) = w8 at *
  refine wp_region_later (by kernel_rfl) (by kernel_rfl) ?_
  repeat (go_big_quiet_step (first | (go_at_call 9; exact calls_later (hG.out _ (later_from hS8 (by simp) _))) | (go_at_call 18; exact calls_later (hL.out _ (later_from hS8 (by simp) _)))))
  refine wpQuiet_nil ?_
  rintro _ ⟨e, rfl⟩
  have hS := later_from hS8 (by simp) e
  clear c0 c1 c2 d0 d1 d2 e0 e1 e2 f0 f1 f2 hl0 hl1 hl2 hl3 hL hG
  generalize later _ e = w9 at *
  have hW := hW8.trans (hS.mono hW8.size)
  obtain ⟨c0, c1, c2⟩ := ((hB0.out.below hX8 hB0.out.lt).below hS (hB0.out.below hX8 hB0.out.lt).lt).three
  have hl0 : w.heap.size < w9.heap.size := ((hB0.out.below hX8 hB0.out.lt).below hS (hB0.out.below hX8 hB0.out.lt).lt).lt
  obtain ⟨e0, e1, e2⟩ := ((hBo.out.below hU8 hBo.out.lt).below hS (hBo.out.below hU8 hBo.out.lt).lt).three
  have hl2 : w5.heap.size < w9.heap.size := ((hBo.out.below hU8 hBo.out.lt).below hS (hBo.out.below hU8 hBo.out.lt).lt).lt
  obtain ⟨f0, f1, f2⟩ := (hBd.out.below hS hBd.out.lt).three
  have hl3 : w7.heap.size < w9.heap.size := (hBd.out.below hS hBd.out.lt).lt
  have hP9 := Lib.hid (hP8.out.below hS)
  have hQ9 := Lib.hid (hQ8.out.below hS)
  clear hP8 hQ8 hS8 hS hX8 hV8 hU8 hW8 hB0 hBa hBo hBd
  go_wp2_with fail
  -- the last line
  refine (last_calls l A n cap _ (H.out.below hW)).mono ?_
  rintro e w10 ⟨rfl, hb⟩
  replace hW := hW.trans (hb.mono hW.size)
  have hP10 := Lib.hid (hP9.out.below hb)
  have hQ10 := Lib.hid (hQ9.out.below hb)
  clear c0 c1 c2 e0 e1 e2 f0 f1 f2 hl0 hl2 hl3 hP9 hQ9 hb
  go_wp2_with fail
  refine (cut_calls pp C (n + 1) cap2 _ _ hQ10.out (by omega)).mono ?_
  rw [ht5.out]
  rintro e w11 ⟨u, rfl, hu, hb⟩
  obtain ⟨D, cap3, rfl, -⟩ := hu.form
  rw [hln] at hu ⊢
  replace hW := hW.trans (hb.mono hW.size)
  have hP11 := Lib.hid (hP10.out.below hb)
  have hR := Lib.hid (hu.mono (ok' := fun _ => True) fun _ _ => trivial)
  clear hP10 hQ10 hu hb
  go_wp2_with fail
  refine (plain_calls l D n cap3 _ hR.out (by omega)).mono ?_
  rintro e w12 ⟨u, rfl, hu, hb⟩
  obtain ⟨E, cap4, rfl, -⟩ := hu.form
  rw [hln] at hu ⊢
  replace hW := hW.trans (hb.mono hW.size)
  have hP12 := Lib.hid (hP11.out.below hb)
  have hR2 := Lib.hid (hu.mono (ok' := fun _ => True) fun _ _ => trivial)
  clear hP11 hR hu hb
  go_wp2_with fail
  refine (same_calls l E B n n cap4 cap1 _ hR2.out hP12.out).mono ?_
  rintro e w13 ⟨rfl, hb⟩
  replace hW := hW.trans (hb.mono hW.size)
  have hP13 := Lib.hid (hP12.out.below hb)
  clear hP12 hR2 hb
  go_wp2_with fail
  refine (plain_calls l A n cap _ (H.out.below hW) (by omega)).mono ?_
  rintro e w14 ⟨u, rfl, hu, hb⟩
  obtain ⟨F, cap5, rfl, -⟩ := hu.form
  rw [hln] at hu ⊢
  replace hW := hW.trans (hb.mono hW.size)
  have hP14 := Lib.hid (hP13.out.below hb)
  have hR2 := Lib.hid (hu.mono (ok' := fun _ => True) fun _ _ => trivial)
  clear hP13 hu hb
  go_wp2_with fail
  refine (same_calls l F B n n cap5 cap1 _ hR2.out hP14.out).mono ?_
  rintro e w15 ⟨rfl, hb⟩
  replace hW := hW.trans (hb.mono hW.size)
  clear hP14 hR2 hb
  go_wp2_with fail
  refine (lives_calls _).mono ?_
  rintro e w16 ⟨rfl, hb⟩
  replace hW := hW.trans (hb.mono hW.size)
  go_wp2
  go_ret
  exact ⟨rfl, hW⟩

set_option maxHeartbeats 2000000 in
theorem puts_yes_false_behind (l : List Ver) (va : Int) (vs : ByteArray) (A : Option Addr) (n cap : Nat) (y : Int) (w : World) (hl : Sl tVer w (fun _ => True) (.slice A n cap) l) (hn : ¬ (300 : Int) < (n : Int)) (hyes : canPut l ⟨va, vs, false⟩ = true) (hy : ¬ y < va) :
    Calls Try.prog 7 #[.slice A n cap, .agg #[.int .i64 va, .string vs, .bool false], .int .i64 y] w fun e w' => e = .returned (.bool true) ∧ Below w.heap.size w w' := by
  obtain ⟨hln, hcap, hm⟩ := hl.length
  have H := Lib.hid hl
  clear hl
  have hb0 : Below w.heap.size w (w.alloc (.cells #[.int .i64 va, .string vs, .bool false] 27)) := (Below.refl _ _).alloc (Nat.le_refl _) _
  have HB := Lib.hid hb0
  clear hb0
  have HNO := Lib.hid hyes
  have ht1 := Lib.hid (get_put hyes)
  have ht3 := Lib.hid (lastOf_snoc hyes)
  have ht4 := Lib.hid (good_snoc hyes)
  have ht5 := Lib.hid (cut_put hyes)
  have ht6 := Lib.hid (put_yes hyes)
  clear hyes
  go_enter Try.func7, Try.ntmps7
  go_wp2_with fail
  have hB0 := Lib.hid (Blk.new w #[.int .i64 va, .string vs, .bool false] 27)
  have hX : Below (w.alloc (.cells #[.int .i64 va, .string vs, .bool false] 27)).heap.size (w.alloc (.cells #[.int .i64 va, .string vs, .bool false] 27)) (w.alloc (.cells #[.int .i64 va, .string vs, .bool false] 27)) := Below.refl _ _
  have hW := HB.out
  clear HB
  generalize w.alloc (.cells #[.int .i64 va, .string vs, .bool false] 27) = w0 at *
  -- was := plain(c)
  refine (plain_calls l A n cap _ (H.out.below hW) (by omega)).mono ?_
  rintro e w1 ⟨u, rfl, hu, hb1⟩
  obtain ⟨B, cap1, rfl, -⟩ := hu.form
  rw [hln] at hu ⊢
  replace hW := hW.trans (hb1.mono hW.size)
  replace hX := hX.trans (hb1.mono hX.size)
  have hP := Lib.hid (hu.mono (ok' := fun _ => True) fun _ _ => trivial)
  obtain ⟨c0, c1, c2⟩ := (hB0.out.below hX hB0.out.lt).three
  have hlt : w.heap.size < w1.heap.size := (hB0.out.below hX hB0.out.lt).lt
  clear hu hb1
  go_wp2_with fail
  -- x, ok := c.Put(v)
  refine (put_calls l ⟨va, vs, false⟩ A n cap _ (H.out.below hW) (by omega)).mono ?_
  rintro e w2 ⟨u, rfl, hu, hb2⟩
  rw [HNO.out] at hu ⊢
  rw [ht6.out] at hu
  have hpl : (l ++ [(⟨va, vs, false⟩ : Ver)]).length = n + 1 := by simp [hln]
  have HPL := Lib.hid hpl
  clear hpl
  generalize l ++ [(⟨va, vs, false⟩ : Ver)] = pp at *
  obtain ⟨C, cap2, rfl, -⟩ := hu.form
  rw [HPL.out] at hu ⊢
  replace hW := hW.trans (hb2.mono hW.size)
  replace hX := hX.trans (hb2.mono hX.size)
  have hQ := Lib.hid (hu.mono (ok' := fun _ => True) fun _ _ => trivial)
  have hP2 := Lib.hid (hP.out.below hb2)
  clear c0 c1 c2 hlt hP hu hb2
  obtain ⟨c0, c1, c2⟩ := (hB0.out.below hX hB0.out.lt).three
  have hlt : w.heap.size < w2.heap.size := (hB0.out.below hX hB0.out.lt).lt
  go_wp2_with fail
  -- a, has := x.Get(v.At)
  refine (get_calls pp C (n + 1) cap2 va _ hQ.out (by omega)).mono ?_
  rw [show get pp va = _ from ht1.out]
  rintro e w3 ⟨rfl, hb3⟩
  rw [show getV (live (some ⟨va, vs, false⟩)) = .tuple #[.agg #[.int .i64 va, .string vs, .bool false], .bool true] from rfl]
  replace hW := hW.trans (hb3.mono hW.size)
  replace hX := hX.trans (hb3.mono hX.size)
  have hP3 := Lib.hid (hP2.out.below hb3)
  have hQ3 := Lib.hid (hQ.out.below hb3)
  clear c0 c1 c2 hlt hP2 hQ hb3
  go_wp2_with fail
  have hz := hW.size
  replace hW := hW.alloc hz (.cells #[.int .i64 va, .string vs, .bool false] 27)
  have hz := hX.size
  have hBa := Lib.hid (Blk.new w3 #[.int .i64 va, .string vs, .bool false] 27)
  have hV : Below (w3.alloc (.cells #[.int .i64 va, .string vs, .bool false] 27)).heap.size (w3.alloc (.cells #[.int .i64 va, .string vs, .bool false] 27)) (w3.alloc (.cells #[.int .i64 va, .string vs, .bool false] 27)) := Below.refl _ _
  replace hX := hX.alloc hz (.cells #[.int .i64 va, .string vs, .bool false] 27)
  have hP4 := Lib.hid (hP3.out.below ((Below.refl _ _).alloc (Nat.le_refl _) (.cells #[.int .i64 va, .string vs, .bool false] 27)))
  have hQ4 := Lib.hid (hQ3.out.below ((Below.refl _ _).alloc (Nat.le_refl _) (.cells #[.int .i64 va, .string vs, .bool false] 27)))
  clear hz hP3 hQ3
  generalize w3.alloc (.cells #[.int .i64 va, .string vs, .bool false] 27) = w4 at *
  -- b, had := c.Get(n)
  refine (get_calls l A n cap y _ (H.out.below hW) (by omega)).mono ?_
  rintro e w5 ⟨rfl, hb5⟩
  rw [getV_any]
  generalize get l y = o at *
  replace hW := hW.trans (hb5.mono hW.size)
  replace hX := hX.trans (hb5.mono hX.size)
  replace hV := hV.trans (hb5.mono hV.size)
  have hP5 := Lib.hid (hP4.out.below hb5)
  have hQ5 := Lib.hid (hQ4.out.below hb5)
  clear hb5 hP4 hQ4
  go_wp2_with fail
  have hz := hW.size
  replace hW := hW.alloc hz (.cells #[.int .i64 (o.getD Ver.zero).at_, .string (o.getD Ver.zero).val, .bool (o.getD Ver.zero).dead] 27)
  have hz := hX.size
  replace hX := hX.alloc hz (.cells #[.int .i64 (o.getD Ver.zero).at_, .string (o.getD Ver.zero).val, .bool (o.getD Ver.zero).dead] 27)
  have hz := hV.size
  replace hV := hV.alloc hz (.cells #[.int .i64 (o.getD Ver.zero).at_, .string (o.getD Ver.zero).val, .bool (o.getD Ver.zero).dead] 27)
  have hBo := Lib.hid (Blk.new w5 #[.int .i64 (o.getD Ver.zero).at_, .string (o.getD Ver.zero).val, .bool (o.getD Ver.zero).dead] 27)
  have hU : Below (w5.alloc (.cells #[.int .i64 (o.getD Ver.zero).at_, .string (o.getD Ver.zero).val, .bool (o.getD Ver.zero).dead] 27)).heap.size (w5.alloc (.cells #[.int .i64 (o.getD Ver.zero).at_, .string (o.getD Ver.zero).val, .bool (o.getD Ver.zero).dead] 27)) (w5.alloc (.cells #[.int .i64 (o.getD Ver.zero).at_, .string (o.getD Ver.zero).val, .bool (o.getD Ver.zero).dead] 27)) := Below.refl _ _
  have hP6 := Lib.hid (hP5.out.below ((Below.refl _ _).alloc (Nat.le_refl _) (.cells #[.int .i64 (o.getD Ver.zero).at_, .string (o.getD Ver.zero).val, .bool (o.getD Ver.zero).dead] 27)))
  have hQ6 := Lib.hid (hQ5.out.below ((Below.refl _ _).alloc (Nat.le_refl _) (.cells #[.int .i64 (o.getD Ver.zero).at_, .string (o.getD Ver.zero).val, .bool (o.getD Ver.zero).dead] 27)))
  clear hz hP5 hQ5
  generalize w5.alloc (.cells #[.int .i64 (o.getD Ver.zero).at_, .string (o.getD Ver.zero).val, .bool (o.getD Ver.zero).dead] 27) = w6 at *
  -- d, now := x.Get(n)
  refine (get_calls pp C (n + 1) cap2 y _ hQ6.out (by omega)).mono ?_
  rintro e w7 ⟨rfl, hb7⟩
  rw [getV_any]
  generalize get pp y = oo at *
  replace hW := hW.trans (hb7.mono hW.size)
  replace hX := hX.trans (hb7.mono hX.size)
  replace hV := hV.trans (hb7.mono hV.size)
  replace hU := hU.trans (hb7.mono hU.size)
  have hP7 := Lib.hid (hP6.out.below hb7)
  have hQ7 := Lib.hid (hQ6.out.below hb7)
  clear hb7 hP6 hQ6
  have hz := hW.size
  have hW8 := hW.alloc hz (.cells #[.int .i64 (oo.getD Ver.zero).at_, .string (oo.getD Ver.zero).val, .bool (oo.getD Ver.zero).dead] 27)
  have hz := hX.size
  have hX8 := hX.alloc hz (.cells #[.int .i64 (oo.getD Ver.zero).at_, .string (oo.getD Ver.zero).val, .bool (oo.getD Ver.zero).dead] 27)
  have hz := hV.size
  have hV8 := hV.alloc hz (.cells #[.int .i64 (oo.getD Ver.zero).at_, .string (oo.getD Ver.zero).val, .bool (oo.getD Ver.zero).dead] 27)
  have hz := hU.size
  have hU8 := hU.alloc hz (.cells #[.int .i64 (oo.getD Ver.zero).at_, .string (oo.getD Ver.zero).val, .bool (oo.getD Ver.zero).dead] 27)
  have hBd := Lib.hid (Blk.new w7 #[.int .i64 (oo.getD Ver.zero).at_, .string (oo.getD Ver.zero).val, .bool (oo.getD Ver.zero).dead] 27)
  have hS8 : Below (w7.alloc (.cells #[.int .i64 (oo.getD Ver.zero).at_, .string (oo.getD Ver.zero).val, .bool (oo.getD Ver.zero).dead] 27)).heap.size (w7.alloc (.cells #[.int .i64 (oo.getD Ver.zero).at_, .string (oo.getD Ver.zero).val, .bool (oo.getD Ver.zero).dead] 27)) (w7.alloc (.cells #[.int .i64 (oo.getD Ver.zero).at_, .string (oo.getD Ver.zero).val, .bool (oo.getD Ver.zero).dead] 27)) := Below.refl _ _
  have hP8 := Lib.hid (hP7.out.below ((Below.refl _ _).alloc (Nat.le_refl _) (.cells #[.int .i64 (oo.getD Ver.zero).at_, .string (oo.getD Ver.zero).val, .bool (oo.getD Ver.zero).dead] 27)))
  have hQ8 := Lib.hid (hQ7.out.below ((Below.refl _ _).alloc (Nat.le_refl _) (.cells #[.int .i64 (oo.getD Ver.zero).at_, .string (oo.getD Ver.zero).val, .bool (oo.getD Ver.zero).dead] 27)))
  clear hz hP7 hQ7
  have hL : Hid (∀ W, Below (w7.alloc (.cells #[.int .i64 (oo.getD Ver.zero).at_, .string (oo.getD Ver.zero).val, .bool (oo.getD Ver.zero).dead] 27)).heap.size (w7.alloc (.cells #[.int .i64 (oo.getD Ver.zero).at_, .string (oo.getD Ver.zero).val, .bool (oo.getD Ver.zero).dead] 27)) W → Calls Try.prog 18 #[.slice C (n + 1) cap2] W fun e w' => e = .returned (.int .i64 va) ∧ Below W.heap.size W w') := fun W h => by
    rw [show va = lastOf pp from ht3.out.symm]; exact last_calls pp C (n + 1) cap2 W (hQ8.out.below h)
  have hG : Hid (∀ W, Below (w7.alloc (.cells #[.int .i64 (oo.getD Ver.zero).at_, .string (oo.getD Ver.zero).val, .bool (oo.getD Ver.zero).dead] 27)).heap.size (w7.alloc (.cells #[.int .i64 (oo.getD Ver.zero).at_, .string (oo.getD Ver.zero).val, .bool (oo.getD Ver.zero).dead] 27)) W → Calls Try.prog 9 #[.slice C (n + 1) cap2] W fun e w' => e = .returned (.bool true) ∧ Below W.heap.size W w') := fun W h => by
    rw [← ht4.out]; exact good_calls pp C (n + 1) cap2 W (hQ8.out.below h)
  clear hW hX hV hU
  obtain ⟨c0, c1, c2⟩ := (hB0.out.below hX8 hB0.out.lt).three
  have hl0 : w.heap.size < (w7.alloc (.cells #[.int .i64 (oo.getD Ver.zero).at_, .string (oo.getD Ver.zero).val, .bool (oo.getD Ver.zero).dead] 27)).heap.size := (hB0.out.below hX8 hB0.out.lt).lt
  obtain ⟨d0, d1, d2⟩ := (hBa.out.below hV8 hBa.out.lt).three
  have hl1 : w3.heap.size < (w7.alloc (.cells #[.int .i64 (oo.getD Ver.zero).at_, .string (oo.getD Ver.zero).val, .bool (oo.getD Ver.zero).dead] 27)).heap.size := (hBa.out.below hV8 hBa.out.lt).lt
  obtain ⟨e0, e1, e2⟩ := (hBo.out.below hU8 hBo.out.lt).three
  have hl2 : w5.heap.size < (w7.alloc (.cells #[.int .i64 (oo.getD Ver.zero).at_, .string (oo.getD Ver.zero).val, .bool (oo.getD Ver.zero).dead] 27)).heap.size := (hBo.out.below hU8 hBo.out.lt).lt
  obtain ⟨f0, f1, f2⟩ := hBd.out.three
  have hl3 : w7.heap.size < (w7.alloc (.cells #[.int .i64 (oo.getD Ver.zero).at_, .string (oo.getD Ver.zero).val, .bool (oo.getD Ver.zero).dead] 27)).heap.size := hBd.out.lt
  go_wp2_with fail
  generalize w7.alloc (.cells #[.int .i64 (oo.getD Ver.zero).at_, .string (oo.getD Ver.zero).val, .bool (oo.getD Ver.zero).dead] 27) = w8 at *
  refine wp_region_later (by kernel_rfl) (by kernel_rfl) ?_
  repeat (go_big_quiet_step (first | (go_at_call 9; exact calls_later (hG.out _ (later_from hS8 (by simp) _))) | (go_at_call 18; exact calls_later (hL.out _ (later_from hS8 (by simp) _)))))
  refine wpQuiet_nil ?_
  rintro _ ⟨e, rfl⟩
  have hS := later_from hS8 (by simp) e
  clear c0 c1 c2 d0 d1 d2 e0 e1 e2 f0 f1 f2 hl0 hl1 hl2 hl3 hL hG
  generalize later _ e = w9 at *
  have hW := hW8.trans (hS.mono hW8.size)
  obtain ⟨c0, c1, c2⟩ := ((hB0.out.below hX8 hB0.out.lt).below hS (hB0.out.below hX8 hB0.out.lt).lt).three
  have hl0 : w.heap.size < w9.heap.size := ((hB0.out.below hX8 hB0.out.lt).below hS (hB0.out.below hX8 hB0.out.lt).lt).lt
  obtain ⟨e0, e1, e2⟩ := ((hBo.out.below hU8 hBo.out.lt).below hS (hBo.out.below hU8 hBo.out.lt).lt).three
  have hl2 : w5.heap.size < w9.heap.size := ((hBo.out.below hU8 hBo.out.lt).below hS (hBo.out.below hU8 hBo.out.lt).lt).lt
  obtain ⟨f0, f1, f2⟩ := (hBd.out.below hS hBd.out.lt).three
  have hl3 : w7.heap.size < w9.heap.size := (hBd.out.below hS hBd.out.lt).lt
  have hP9 := Lib.hid (hP8.out.below hS)
  have hQ9 := Lib.hid (hQ8.out.below hS)
  clear hP8 hQ8 hS8 hS hX8 hV8 hU8 hW8 hB0 hBa hBo hBd
  go_wp2_with fail
  -- the last line
  refine (last_calls l A n cap _ (H.out.below hW)).mono ?_
  rintro e w10 ⟨rfl, hb⟩
  replace hW := hW.trans (hb.mono hW.size)
  have hP10 := Lib.hid (hP9.out.below hb)
  have hQ10 := Lib.hid (hQ9.out.below hb)
  clear c0 c1 c2 e0 e1 e2 f0 f1 f2 hl0 hl2 hl3 hP9 hQ9 hb
  go_wp2_with fail
  refine (cut_calls pp C (n + 1) cap2 _ _ hQ10.out (by omega)).mono ?_
  rw [ht5.out]
  rintro e w11 ⟨u, rfl, hu, hb⟩
  obtain ⟨D, cap3, rfl, -⟩ := hu.form
  rw [hln] at hu ⊢
  replace hW := hW.trans (hb.mono hW.size)
  have hP11 := Lib.hid (hP10.out.below hb)
  have hR := Lib.hid (hu.mono (ok' := fun _ => True) fun _ _ => trivial)
  clear hP10 hQ10 hu hb
  go_wp2_with fail
  refine (plain_calls l D n cap3 _ hR.out (by omega)).mono ?_
  rintro e w12 ⟨u, rfl, hu, hb⟩
  obtain ⟨E, cap4, rfl, -⟩ := hu.form
  rw [hln] at hu ⊢
  replace hW := hW.trans (hb.mono hW.size)
  have hP12 := Lib.hid (hP11.out.below hb)
  have hR2 := Lib.hid (hu.mono (ok' := fun _ => True) fun _ _ => trivial)
  clear hP11 hR hu hb
  go_wp2_with fail
  refine (same_calls l E B n n cap4 cap1 _ hR2.out hP12.out).mono ?_
  rintro e w13 ⟨rfl, hb⟩
  replace hW := hW.trans (hb.mono hW.size)
  have hP13 := Lib.hid (hP12.out.below hb)
  clear hP12 hR2 hb
  go_wp2_with fail
  refine (plain_calls l A n cap _ (H.out.below hW) (by omega)).mono ?_
  rintro e w14 ⟨u, rfl, hu, hb⟩
  obtain ⟨F, cap5, rfl, -⟩ := hu.form
  rw [hln] at hu ⊢
  replace hW := hW.trans (hb.mono hW.size)
  have hP14 := Lib.hid (hP13.out.below hb)
  have hR2 := Lib.hid (hu.mono (ok' := fun _ => True) fun _ _ => trivial)
  clear hP13 hu hb
  go_wp2_with fail
  refine (same_calls l F B n n cap5 cap1 _ hR2.out hP14.out).mono ?_
  rintro e w15 ⟨rfl, hb⟩
  replace hW := hW.trans (hb.mono hW.size)
  clear hP14 hR2 hb
  go_wp2_with fail
  refine (lives_calls _).mono ?_
  rintro e w16 ⟨rfl, hb⟩
  replace hW := hW.trans (hb.mono hW.size)
  go_wp2
  go_ret
  exact ⟨rfl, hW⟩

set_option maxHeartbeats 2000000 in
theorem puts_yes_true_ahead (l : List Ver) (va : Int) (vs : ByteArray) (A : Option Addr) (n cap : Nat) (y : Int) (w : World) (hl : Sl tVer w (fun _ => True) (.slice A n cap) l) (hn : ¬ (300 : Int) < (n : Int)) (hyes : canPut l ⟨va, vs, true⟩ = true) (hy : y < va) :
    Calls Try.prog 7 #[.slice A n cap, .agg #[.int .i64 va, .string vs, .bool true], .int .i64 y] w fun e w' => e = .returned (.bool true) ∧ Below w.heap.size w w' := by
  obtain ⟨hln, hcap, hm⟩ := hl.length
  have H := Lib.hid hl
  clear hl
  have hb0 : Below w.heap.size w (w.alloc (.cells #[.int .i64 va, .string vs, .bool true] 27)) := (Below.refl _ _).alloc (Nat.le_refl _) _
  have HB := Lib.hid hb0
  clear hb0
  have HNO := Lib.hid hyes
  have ht1 := Lib.hid (get_put hyes)
  have ht2 := Lib.hid (get_put_ahead hyes hy)
  have ht3 := Lib.hid (lastOf_snoc hyes)
  have ht4 := Lib.hid (good_snoc hyes)
  have ht5 := Lib.hid (cut_put hyes)
  have ht6 := Lib.hid (put_yes hyes)
  clear hyes
  go_enter Try.func7, Try.ntmps7
  go_wp2_with fail
  have hB0 := Lib.hid (Blk.new w #[.int .i64 va, .string vs, .bool true] 27)
  have hX : Below (w.alloc (.cells #[.int .i64 va, .string vs, .bool true] 27)).heap.size (w.alloc (.cells #[.int .i64 va, .string vs, .bool true] 27)) (w.alloc (.cells #[.int .i64 va, .string vs, .bool true] 27)) := Below.refl _ _
  have hW := HB.out
  clear HB
  generalize w.alloc (.cells #[.int .i64 va, .string vs, .bool true] 27) = w0 at *
  -- was := plain(c)
  refine (plain_calls l A n cap _ (H.out.below hW) (by omega)).mono ?_
  rintro e w1 ⟨u, rfl, hu, hb1⟩
  obtain ⟨B, cap1, rfl, -⟩ := hu.form
  rw [hln] at hu ⊢
  replace hW := hW.trans (hb1.mono hW.size)
  replace hX := hX.trans (hb1.mono hX.size)
  have hP := Lib.hid (hu.mono (ok' := fun _ => True) fun _ _ => trivial)
  obtain ⟨c0, c1, c2⟩ := (hB0.out.below hX hB0.out.lt).three
  have hlt : w.heap.size < w1.heap.size := (hB0.out.below hX hB0.out.lt).lt
  clear hu hb1
  go_wp2_with fail
  -- x, ok := c.Put(v)
  refine (put_calls l ⟨va, vs, true⟩ A n cap _ (H.out.below hW) (by omega)).mono ?_
  rintro e w2 ⟨u, rfl, hu, hb2⟩
  rw [HNO.out] at hu ⊢
  rw [ht6.out] at hu
  have hpl : (l ++ [(⟨va, vs, true⟩ : Ver)]).length = n + 1 := by simp [hln]
  have HPL := Lib.hid hpl
  clear hpl
  generalize l ++ [(⟨va, vs, true⟩ : Ver)] = pp at *
  obtain ⟨C, cap2, rfl, -⟩ := hu.form
  rw [HPL.out] at hu ⊢
  replace hW := hW.trans (hb2.mono hW.size)
  replace hX := hX.trans (hb2.mono hX.size)
  have hQ := Lib.hid (hu.mono (ok' := fun _ => True) fun _ _ => trivial)
  have hP2 := Lib.hid (hP.out.below hb2)
  clear c0 c1 c2 hlt hP hu hb2
  obtain ⟨c0, c1, c2⟩ := (hB0.out.below hX hB0.out.lt).three
  have hlt : w.heap.size < w2.heap.size := (hB0.out.below hX hB0.out.lt).lt
  go_wp2_with fail
  -- a, has := x.Get(v.At)
  refine (get_calls pp C (n + 1) cap2 va _ hQ.out (by omega)).mono ?_
  rw [show get pp va = _ from ht1.out]
  rintro e w3 ⟨rfl, hb3⟩
  rw [show getV (live (some ⟨va, vs, true⟩)) = .tuple #[.agg #[.int .i64 0, .string ⟨#[]⟩, .bool false], .bool false] from rfl]
  replace hW := hW.trans (hb3.mono hW.size)
  replace hX := hX.trans (hb3.mono hX.size)
  have hP3 := Lib.hid (hP2.out.below hb3)
  have hQ3 := Lib.hid (hQ.out.below hb3)
  clear c0 c1 c2 hlt hP2 hQ hb3
  go_wp2_with fail
  have hz := hW.size
  replace hW := hW.alloc hz (.cells #[.int .i64 0, .string ⟨#[]⟩, .bool false] 27)
  have hz := hX.size
  have hBa := Lib.hid (Blk.new w3 #[.int .i64 0, .string ⟨#[]⟩, .bool false] 27)
  have hV : Below (w3.alloc (.cells #[.int .i64 0, .string ⟨#[]⟩, .bool false] 27)).heap.size (w3.alloc (.cells #[.int .i64 0, .string ⟨#[]⟩, .bool false] 27)) (w3.alloc (.cells #[.int .i64 0, .string ⟨#[]⟩, .bool false] 27)) := Below.refl _ _
  replace hX := hX.alloc hz (.cells #[.int .i64 0, .string ⟨#[]⟩, .bool false] 27)
  have hP4 := Lib.hid (hP3.out.below ((Below.refl _ _).alloc (Nat.le_refl _) (.cells #[.int .i64 0, .string ⟨#[]⟩, .bool false] 27)))
  have hQ4 := Lib.hid (hQ3.out.below ((Below.refl _ _).alloc (Nat.le_refl _) (.cells #[.int .i64 0, .string ⟨#[]⟩, .bool false] 27)))
  clear hz hP3 hQ3
  generalize w3.alloc (.cells #[.int .i64 0, .string ⟨#[]⟩, .bool false] 27) = w4 at *
  -- b, had := c.Get(n)
  refine (get_calls l A n cap y _ (H.out.below hW) (by omega)).mono ?_
  rintro e w5 ⟨rfl, hb5⟩
  rw [getV_any]
  generalize get l y = o at *
  replace hW := hW.trans (hb5.mono hW.size)
  replace hX := hX.trans (hb5.mono hX.size)
  replace hV := hV.trans (hb5.mono hV.size)
  have hP5 := Lib.hid (hP4.out.below hb5)
  have hQ5 := Lib.hid (hQ4.out.below hb5)
  clear hb5 hP4 hQ4
  go_wp2_with fail
  have hz := hW.size
  replace hW := hW.alloc hz (.cells #[.int .i64 (o.getD Ver.zero).at_, .string (o.getD Ver.zero).val, .bool (o.getD Ver.zero).dead] 27)
  have hz := hX.size
  replace hX := hX.alloc hz (.cells #[.int .i64 (o.getD Ver.zero).at_, .string (o.getD Ver.zero).val, .bool (o.getD Ver.zero).dead] 27)
  have hz := hV.size
  replace hV := hV.alloc hz (.cells #[.int .i64 (o.getD Ver.zero).at_, .string (o.getD Ver.zero).val, .bool (o.getD Ver.zero).dead] 27)
  have hBo := Lib.hid (Blk.new w5 #[.int .i64 (o.getD Ver.zero).at_, .string (o.getD Ver.zero).val, .bool (o.getD Ver.zero).dead] 27)
  have hU : Below (w5.alloc (.cells #[.int .i64 (o.getD Ver.zero).at_, .string (o.getD Ver.zero).val, .bool (o.getD Ver.zero).dead] 27)).heap.size (w5.alloc (.cells #[.int .i64 (o.getD Ver.zero).at_, .string (o.getD Ver.zero).val, .bool (o.getD Ver.zero).dead] 27)) (w5.alloc (.cells #[.int .i64 (o.getD Ver.zero).at_, .string (o.getD Ver.zero).val, .bool (o.getD Ver.zero).dead] 27)) := Below.refl _ _
  have hP6 := Lib.hid (hP5.out.below ((Below.refl _ _).alloc (Nat.le_refl _) (.cells #[.int .i64 (o.getD Ver.zero).at_, .string (o.getD Ver.zero).val, .bool (o.getD Ver.zero).dead] 27)))
  have hQ6 := Lib.hid (hQ5.out.below ((Below.refl _ _).alloc (Nat.le_refl _) (.cells #[.int .i64 (o.getD Ver.zero).at_, .string (o.getD Ver.zero).val, .bool (o.getD Ver.zero).dead] 27)))
  clear hz hP5 hQ5
  generalize w5.alloc (.cells #[.int .i64 (o.getD Ver.zero).at_, .string (o.getD Ver.zero).val, .bool (o.getD Ver.zero).dead] 27) = w6 at *
  -- d, now := x.Get(n)
  refine (get_calls pp C (n + 1) cap2 y _ hQ6.out (by omega)).mono ?_
  rw [ht2.out]
  rintro e w7 ⟨rfl, hb7⟩
  rw [getV_any]
  replace hW := hW.trans (hb7.mono hW.size)
  replace hX := hX.trans (hb7.mono hX.size)
  replace hV := hV.trans (hb7.mono hV.size)
  replace hU := hU.trans (hb7.mono hU.size)
  have hP7 := Lib.hid (hP6.out.below hb7)
  have hQ7 := Lib.hid (hQ6.out.below hb7)
  clear hb7 hP6 hQ6
  have hz := hW.size
  have hW8 := hW.alloc hz (.cells #[.int .i64 (o.getD Ver.zero).at_, .string (o.getD Ver.zero).val, .bool (o.getD Ver.zero).dead] 27)
  have hz := hX.size
  have hX8 := hX.alloc hz (.cells #[.int .i64 (o.getD Ver.zero).at_, .string (o.getD Ver.zero).val, .bool (o.getD Ver.zero).dead] 27)
  have hz := hV.size
  have hV8 := hV.alloc hz (.cells #[.int .i64 (o.getD Ver.zero).at_, .string (o.getD Ver.zero).val, .bool (o.getD Ver.zero).dead] 27)
  have hz := hU.size
  have hU8 := hU.alloc hz (.cells #[.int .i64 (o.getD Ver.zero).at_, .string (o.getD Ver.zero).val, .bool (o.getD Ver.zero).dead] 27)
  have hBd := Lib.hid (Blk.new w7 #[.int .i64 (o.getD Ver.zero).at_, .string (o.getD Ver.zero).val, .bool (o.getD Ver.zero).dead] 27)
  have hS8 : Below (w7.alloc (.cells #[.int .i64 (o.getD Ver.zero).at_, .string (o.getD Ver.zero).val, .bool (o.getD Ver.zero).dead] 27)).heap.size (w7.alloc (.cells #[.int .i64 (o.getD Ver.zero).at_, .string (o.getD Ver.zero).val, .bool (o.getD Ver.zero).dead] 27)) (w7.alloc (.cells #[.int .i64 (o.getD Ver.zero).at_, .string (o.getD Ver.zero).val, .bool (o.getD Ver.zero).dead] 27)) := Below.refl _ _
  have hP8 := Lib.hid (hP7.out.below ((Below.refl _ _).alloc (Nat.le_refl _) (.cells #[.int .i64 (o.getD Ver.zero).at_, .string (o.getD Ver.zero).val, .bool (o.getD Ver.zero).dead] 27)))
  have hQ8 := Lib.hid (hQ7.out.below ((Below.refl _ _).alloc (Nat.le_refl _) (.cells #[.int .i64 (o.getD Ver.zero).at_, .string (o.getD Ver.zero).val, .bool (o.getD Ver.zero).dead] 27)))
  clear hz hP7 hQ7
  have hL : Hid (∀ W, Below (w7.alloc (.cells #[.int .i64 (o.getD Ver.zero).at_, .string (o.getD Ver.zero).val, .bool (o.getD Ver.zero).dead] 27)).heap.size (w7.alloc (.cells #[.int .i64 (o.getD Ver.zero).at_, .string (o.getD Ver.zero).val, .bool (o.getD Ver.zero).dead] 27)) W → Calls Try.prog 18 #[.slice C (n + 1) cap2] W fun e w' => e = .returned (.int .i64 va) ∧ Below W.heap.size W w') := fun W h => by
    rw [show va = lastOf pp from ht3.out.symm]; exact last_calls pp C (n + 1) cap2 W (hQ8.out.below h)
  have hG : Hid (∀ W, Below (w7.alloc (.cells #[.int .i64 (o.getD Ver.zero).at_, .string (o.getD Ver.zero).val, .bool (o.getD Ver.zero).dead] 27)).heap.size (w7.alloc (.cells #[.int .i64 (o.getD Ver.zero).at_, .string (o.getD Ver.zero).val, .bool (o.getD Ver.zero).dead] 27)) W → Calls Try.prog 9 #[.slice C (n + 1) cap2] W fun e w' => e = .returned (.bool true) ∧ Below W.heap.size W w') := fun W h => by
    rw [← ht4.out]; exact good_calls pp C (n + 1) cap2 W (hQ8.out.below h)
  clear hW hX hV hU
  obtain ⟨c0, c1, c2⟩ := (hB0.out.below hX8 hB0.out.lt).three
  have hl0 : w.heap.size < (w7.alloc (.cells #[.int .i64 (o.getD Ver.zero).at_, .string (o.getD Ver.zero).val, .bool (o.getD Ver.zero).dead] 27)).heap.size := (hB0.out.below hX8 hB0.out.lt).lt
  obtain ⟨d0, d1, d2⟩ := (hBa.out.below hV8 hBa.out.lt).three
  have hl1 : w3.heap.size < (w7.alloc (.cells #[.int .i64 (o.getD Ver.zero).at_, .string (o.getD Ver.zero).val, .bool (o.getD Ver.zero).dead] 27)).heap.size := (hBa.out.below hV8 hBa.out.lt).lt
  obtain ⟨e0, e1, e2⟩ := (hBo.out.below hU8 hBo.out.lt).three
  have hl2 : w5.heap.size < (w7.alloc (.cells #[.int .i64 (o.getD Ver.zero).at_, .string (o.getD Ver.zero).val, .bool (o.getD Ver.zero).dead] 27)).heap.size := (hBo.out.below hU8 hBo.out.lt).lt
  obtain ⟨f0, f1, f2⟩ := hBd.out.three
  have hl3 : w7.heap.size < (w7.alloc (.cells #[.int .i64 (o.getD Ver.zero).at_, .string (o.getD Ver.zero).val, .bool (o.getD Ver.zero).dead] 27)).heap.size := hBd.out.lt
  go_wp2_with fail
  generalize w7.alloc (.cells #[.int .i64 (o.getD Ver.zero).at_, .string (o.getD Ver.zero).val, .bool (o.getD Ver.zero).dead] 27) = w8 at *
  refine wp_region_later (by kernel_rfl) (by kernel_rfl) ?_
  repeat (go_big_quiet_step (first | (go_at_call 9; exact calls_later (hG.out _ (later_from hS8 (by simp) _))) | (go_at_call 18; exact calls_later (hL.out _ (later_from hS8 (by simp) _)))))
  refine wpQuiet_nil ?_
  rintro _ ⟨e, rfl⟩
  have hS := later_from hS8 (by simp) e
  clear c0 c1 c2 d0 d1 d2 e0 e1 e2 f0 f1 f2 hl0 hl1 hl2 hl3 hL hG
  generalize later _ e = w9 at *
  have hW := hW8.trans (hS.mono hW8.size)
  obtain ⟨c0, c1, c2⟩ := ((hB0.out.below hX8 hB0.out.lt).below hS (hB0.out.below hX8 hB0.out.lt).lt).three
  have hl0 : w.heap.size < w9.heap.size := ((hB0.out.below hX8 hB0.out.lt).below hS (hB0.out.below hX8 hB0.out.lt).lt).lt
  obtain ⟨e0, e1, e2⟩ := ((hBo.out.below hU8 hBo.out.lt).below hS (hBo.out.below hU8 hBo.out.lt).lt).three
  have hl2 : w5.heap.size < w9.heap.size := ((hBo.out.below hU8 hBo.out.lt).below hS (hBo.out.below hU8 hBo.out.lt).lt).lt
  obtain ⟨f0, f1, f2⟩ := (hBd.out.below hS hBd.out.lt).three
  have hl3 : w7.heap.size < w9.heap.size := (hBd.out.below hS hBd.out.lt).lt
  have hP9 := Lib.hid (hP8.out.below hS)
  have hQ9 := Lib.hid (hQ8.out.below hS)
  clear hP8 hQ8 hS8 hS hX8 hV8 hU8 hW8 hB0 hBa hBo hBd
  go_wp2_with fail
  -- the last line
  refine (last_calls l A n cap _ (H.out.below hW)).mono ?_
  rintro e w10 ⟨rfl, hb⟩
  replace hW := hW.trans (hb.mono hW.size)
  have hP10 := Lib.hid (hP9.out.below hb)
  have hQ10 := Lib.hid (hQ9.out.below hb)
  clear c0 c1 c2 e0 e1 e2 f0 f1 f2 hl0 hl2 hl3 hP9 hQ9 hb
  go_wp2_with fail
  refine (cut_calls pp C (n + 1) cap2 _ _ hQ10.out (by omega)).mono ?_
  rw [ht5.out]
  rintro e w11 ⟨u, rfl, hu, hb⟩
  obtain ⟨D, cap3, rfl, -⟩ := hu.form
  rw [hln] at hu ⊢
  replace hW := hW.trans (hb.mono hW.size)
  have hP11 := Lib.hid (hP10.out.below hb)
  have hR := Lib.hid (hu.mono (ok' := fun _ => True) fun _ _ => trivial)
  clear hP10 hQ10 hu hb
  go_wp2_with fail
  refine (plain_calls l D n cap3 _ hR.out (by omega)).mono ?_
  rintro e w12 ⟨u, rfl, hu, hb⟩
  obtain ⟨E, cap4, rfl, -⟩ := hu.form
  rw [hln] at hu ⊢
  replace hW := hW.trans (hb.mono hW.size)
  have hP12 := Lib.hid (hP11.out.below hb)
  have hR2 := Lib.hid (hu.mono (ok' := fun _ => True) fun _ _ => trivial)
  clear hP11 hR hu hb
  go_wp2_with fail
  refine (same_calls l E B n n cap4 cap1 _ hR2.out hP12.out).mono ?_
  rintro e w13 ⟨rfl, hb⟩
  replace hW := hW.trans (hb.mono hW.size)
  have hP13 := Lib.hid (hP12.out.below hb)
  clear hP12 hR2 hb
  go_wp2_with fail
  refine (plain_calls l A n cap _ (H.out.below hW) (by omega)).mono ?_
  rintro e w14 ⟨u, rfl, hu, hb⟩
  obtain ⟨F, cap5, rfl, -⟩ := hu.form
  rw [hln] at hu ⊢
  replace hW := hW.trans (hb.mono hW.size)
  have hP14 := Lib.hid (hP13.out.below hb)
  have hR2 := Lib.hid (hu.mono (ok' := fun _ => True) fun _ _ => trivial)
  clear hP13 hu hb
  go_wp2_with fail
  refine (same_calls l F B n n cap5 cap1 _ hR2.out hP14.out).mono ?_
  rintro e w15 ⟨rfl, hb⟩
  replace hW := hW.trans (hb.mono hW.size)
  clear hP14 hR2 hb
  go_wp2_with fail
  refine (lives_calls _).mono ?_
  rintro e w16 ⟨rfl, hb⟩
  replace hW := hW.trans (hb.mono hW.size)
  go_wp2
  go_ret
  exact ⟨rfl, hW⟩

set_option maxHeartbeats 2000000 in
theorem puts_yes_true_behind (l : List Ver) (va : Int) (vs : ByteArray) (A : Option Addr) (n cap : Nat) (y : Int) (w : World) (hl : Sl tVer w (fun _ => True) (.slice A n cap) l) (hn : ¬ (300 : Int) < (n : Int)) (hyes : canPut l ⟨va, vs, true⟩ = true) (hy : ¬ y < va) :
    Calls Try.prog 7 #[.slice A n cap, .agg #[.int .i64 va, .string vs, .bool true], .int .i64 y] w fun e w' => e = .returned (.bool true) ∧ Below w.heap.size w w' := by
  obtain ⟨hln, hcap, hm⟩ := hl.length
  have H := Lib.hid hl
  clear hl
  have hb0 : Below w.heap.size w (w.alloc (.cells #[.int .i64 va, .string vs, .bool true] 27)) := (Below.refl _ _).alloc (Nat.le_refl _) _
  have HB := Lib.hid hb0
  clear hb0
  have HNO := Lib.hid hyes
  have ht1 := Lib.hid (get_put hyes)
  have ht3 := Lib.hid (lastOf_snoc hyes)
  have ht4 := Lib.hid (good_snoc hyes)
  have ht5 := Lib.hid (cut_put hyes)
  have ht6 := Lib.hid (put_yes hyes)
  clear hyes
  go_enter Try.func7, Try.ntmps7
  go_wp2_with fail
  have hB0 := Lib.hid (Blk.new w #[.int .i64 va, .string vs, .bool true] 27)
  have hX : Below (w.alloc (.cells #[.int .i64 va, .string vs, .bool true] 27)).heap.size (w.alloc (.cells #[.int .i64 va, .string vs, .bool true] 27)) (w.alloc (.cells #[.int .i64 va, .string vs, .bool true] 27)) := Below.refl _ _
  have hW := HB.out
  clear HB
  generalize w.alloc (.cells #[.int .i64 va, .string vs, .bool true] 27) = w0 at *
  -- was := plain(c)
  refine (plain_calls l A n cap _ (H.out.below hW) (by omega)).mono ?_
  rintro e w1 ⟨u, rfl, hu, hb1⟩
  obtain ⟨B, cap1, rfl, -⟩ := hu.form
  rw [hln] at hu ⊢
  replace hW := hW.trans (hb1.mono hW.size)
  replace hX := hX.trans (hb1.mono hX.size)
  have hP := Lib.hid (hu.mono (ok' := fun _ => True) fun _ _ => trivial)
  obtain ⟨c0, c1, c2⟩ := (hB0.out.below hX hB0.out.lt).three
  have hlt : w.heap.size < w1.heap.size := (hB0.out.below hX hB0.out.lt).lt
  clear hu hb1
  go_wp2_with fail
  -- x, ok := c.Put(v)
  refine (put_calls l ⟨va, vs, true⟩ A n cap _ (H.out.below hW) (by omega)).mono ?_
  rintro e w2 ⟨u, rfl, hu, hb2⟩
  rw [HNO.out] at hu ⊢
  rw [ht6.out] at hu
  have hpl : (l ++ [(⟨va, vs, true⟩ : Ver)]).length = n + 1 := by simp [hln]
  have HPL := Lib.hid hpl
  clear hpl
  generalize l ++ [(⟨va, vs, true⟩ : Ver)] = pp at *
  obtain ⟨C, cap2, rfl, -⟩ := hu.form
  rw [HPL.out] at hu ⊢
  replace hW := hW.trans (hb2.mono hW.size)
  replace hX := hX.trans (hb2.mono hX.size)
  have hQ := Lib.hid (hu.mono (ok' := fun _ => True) fun _ _ => trivial)
  have hP2 := Lib.hid (hP.out.below hb2)
  clear c0 c1 c2 hlt hP hu hb2
  obtain ⟨c0, c1, c2⟩ := (hB0.out.below hX hB0.out.lt).three
  have hlt : w.heap.size < w2.heap.size := (hB0.out.below hX hB0.out.lt).lt
  go_wp2_with fail
  -- a, has := x.Get(v.At)
  refine (get_calls pp C (n + 1) cap2 va _ hQ.out (by omega)).mono ?_
  rw [show get pp va = _ from ht1.out]
  rintro e w3 ⟨rfl, hb3⟩
  rw [show getV (live (some ⟨va, vs, true⟩)) = .tuple #[.agg #[.int .i64 0, .string ⟨#[]⟩, .bool false], .bool false] from rfl]
  replace hW := hW.trans (hb3.mono hW.size)
  replace hX := hX.trans (hb3.mono hX.size)
  have hP3 := Lib.hid (hP2.out.below hb3)
  have hQ3 := Lib.hid (hQ.out.below hb3)
  clear c0 c1 c2 hlt hP2 hQ hb3
  go_wp2_with fail
  have hz := hW.size
  replace hW := hW.alloc hz (.cells #[.int .i64 0, .string ⟨#[]⟩, .bool false] 27)
  have hz := hX.size
  have hBa := Lib.hid (Blk.new w3 #[.int .i64 0, .string ⟨#[]⟩, .bool false] 27)
  have hV : Below (w3.alloc (.cells #[.int .i64 0, .string ⟨#[]⟩, .bool false] 27)).heap.size (w3.alloc (.cells #[.int .i64 0, .string ⟨#[]⟩, .bool false] 27)) (w3.alloc (.cells #[.int .i64 0, .string ⟨#[]⟩, .bool false] 27)) := Below.refl _ _
  replace hX := hX.alloc hz (.cells #[.int .i64 0, .string ⟨#[]⟩, .bool false] 27)
  have hP4 := Lib.hid (hP3.out.below ((Below.refl _ _).alloc (Nat.le_refl _) (.cells #[.int .i64 0, .string ⟨#[]⟩, .bool false] 27)))
  have hQ4 := Lib.hid (hQ3.out.below ((Below.refl _ _).alloc (Nat.le_refl _) (.cells #[.int .i64 0, .string ⟨#[]⟩, .bool false] 27)))
  clear hz hP3 hQ3
  generalize w3.alloc (.cells #[.int .i64 0, .string ⟨#[]⟩, .bool false] 27) = w4 at *
  -- b, had := c.Get(n)
  refine (get_calls l A n cap y _ (H.out.below hW) (by omega)).mono ?_
  rintro e w5 ⟨rfl, hb5⟩
  rw [getV_any]
  generalize get l y = o at *
  replace hW := hW.trans (hb5.mono hW.size)
  replace hX := hX.trans (hb5.mono hX.size)
  replace hV := hV.trans (hb5.mono hV.size)
  have hP5 := Lib.hid (hP4.out.below hb5)
  have hQ5 := Lib.hid (hQ4.out.below hb5)
  clear hb5 hP4 hQ4
  go_wp2_with fail
  have hz := hW.size
  replace hW := hW.alloc hz (.cells #[.int .i64 (o.getD Ver.zero).at_, .string (o.getD Ver.zero).val, .bool (o.getD Ver.zero).dead] 27)
  have hz := hX.size
  replace hX := hX.alloc hz (.cells #[.int .i64 (o.getD Ver.zero).at_, .string (o.getD Ver.zero).val, .bool (o.getD Ver.zero).dead] 27)
  have hz := hV.size
  replace hV := hV.alloc hz (.cells #[.int .i64 (o.getD Ver.zero).at_, .string (o.getD Ver.zero).val, .bool (o.getD Ver.zero).dead] 27)
  have hBo := Lib.hid (Blk.new w5 #[.int .i64 (o.getD Ver.zero).at_, .string (o.getD Ver.zero).val, .bool (o.getD Ver.zero).dead] 27)
  have hU : Below (w5.alloc (.cells #[.int .i64 (o.getD Ver.zero).at_, .string (o.getD Ver.zero).val, .bool (o.getD Ver.zero).dead] 27)).heap.size (w5.alloc (.cells #[.int .i64 (o.getD Ver.zero).at_, .string (o.getD Ver.zero).val, .bool (o.getD Ver.zero).dead] 27)) (w5.alloc (.cells #[.int .i64 (o.getD Ver.zero).at_, .string (o.getD Ver.zero).val, .bool (o.getD Ver.zero).dead] 27)) := Below.refl _ _
  have hP6 := Lib.hid (hP5.out.below ((Below.refl _ _).alloc (Nat.le_refl _) (.cells #[.int .i64 (o.getD Ver.zero).at_, .string (o.getD Ver.zero).val, .bool (o.getD Ver.zero).dead] 27)))
  have hQ6 := Lib.hid (hQ5.out.below ((Below.refl _ _).alloc (Nat.le_refl _) (.cells #[.int .i64 (o.getD Ver.zero).at_, .string (o.getD Ver.zero).val, .bool (o.getD Ver.zero).dead] 27)))
  clear hz hP5 hQ5
  generalize w5.alloc (.cells #[.int .i64 (o.getD Ver.zero).at_, .string (o.getD Ver.zero).val, .bool (o.getD Ver.zero).dead] 27) = w6 at *
  -- d, now := x.Get(n)
  refine (get_calls pp C (n + 1) cap2 y _ hQ6.out (by omega)).mono ?_
  rintro e w7 ⟨rfl, hb7⟩
  rw [getV_any]
  generalize get pp y = oo at *
  replace hW := hW.trans (hb7.mono hW.size)
  replace hX := hX.trans (hb7.mono hX.size)
  replace hV := hV.trans (hb7.mono hV.size)
  replace hU := hU.trans (hb7.mono hU.size)
  have hP7 := Lib.hid (hP6.out.below hb7)
  have hQ7 := Lib.hid (hQ6.out.below hb7)
  clear hb7 hP6 hQ6
  have hz := hW.size
  have hW8 := hW.alloc hz (.cells #[.int .i64 (oo.getD Ver.zero).at_, .string (oo.getD Ver.zero).val, .bool (oo.getD Ver.zero).dead] 27)
  have hz := hX.size
  have hX8 := hX.alloc hz (.cells #[.int .i64 (oo.getD Ver.zero).at_, .string (oo.getD Ver.zero).val, .bool (oo.getD Ver.zero).dead] 27)
  have hz := hV.size
  have hV8 := hV.alloc hz (.cells #[.int .i64 (oo.getD Ver.zero).at_, .string (oo.getD Ver.zero).val, .bool (oo.getD Ver.zero).dead] 27)
  have hz := hU.size
  have hU8 := hU.alloc hz (.cells #[.int .i64 (oo.getD Ver.zero).at_, .string (oo.getD Ver.zero).val, .bool (oo.getD Ver.zero).dead] 27)
  have hBd := Lib.hid (Blk.new w7 #[.int .i64 (oo.getD Ver.zero).at_, .string (oo.getD Ver.zero).val, .bool (oo.getD Ver.zero).dead] 27)
  have hS8 : Below (w7.alloc (.cells #[.int .i64 (oo.getD Ver.zero).at_, .string (oo.getD Ver.zero).val, .bool (oo.getD Ver.zero).dead] 27)).heap.size (w7.alloc (.cells #[.int .i64 (oo.getD Ver.zero).at_, .string (oo.getD Ver.zero).val, .bool (oo.getD Ver.zero).dead] 27)) (w7.alloc (.cells #[.int .i64 (oo.getD Ver.zero).at_, .string (oo.getD Ver.zero).val, .bool (oo.getD Ver.zero).dead] 27)) := Below.refl _ _
  have hP8 := Lib.hid (hP7.out.below ((Below.refl _ _).alloc (Nat.le_refl _) (.cells #[.int .i64 (oo.getD Ver.zero).at_, .string (oo.getD Ver.zero).val, .bool (oo.getD Ver.zero).dead] 27)))
  have hQ8 := Lib.hid (hQ7.out.below ((Below.refl _ _).alloc (Nat.le_refl _) (.cells #[.int .i64 (oo.getD Ver.zero).at_, .string (oo.getD Ver.zero).val, .bool (oo.getD Ver.zero).dead] 27)))
  clear hz hP7 hQ7
  have hL : Hid (∀ W, Below (w7.alloc (.cells #[.int .i64 (oo.getD Ver.zero).at_, .string (oo.getD Ver.zero).val, .bool (oo.getD Ver.zero).dead] 27)).heap.size (w7.alloc (.cells #[.int .i64 (oo.getD Ver.zero).at_, .string (oo.getD Ver.zero).val, .bool (oo.getD Ver.zero).dead] 27)) W → Calls Try.prog 18 #[.slice C (n + 1) cap2] W fun e w' => e = .returned (.int .i64 va) ∧ Below W.heap.size W w') := fun W h => by
    rw [show va = lastOf pp from ht3.out.symm]; exact last_calls pp C (n + 1) cap2 W (hQ8.out.below h)
  have hG : Hid (∀ W, Below (w7.alloc (.cells #[.int .i64 (oo.getD Ver.zero).at_, .string (oo.getD Ver.zero).val, .bool (oo.getD Ver.zero).dead] 27)).heap.size (w7.alloc (.cells #[.int .i64 (oo.getD Ver.zero).at_, .string (oo.getD Ver.zero).val, .bool (oo.getD Ver.zero).dead] 27)) W → Calls Try.prog 9 #[.slice C (n + 1) cap2] W fun e w' => e = .returned (.bool true) ∧ Below W.heap.size W w') := fun W h => by
    rw [← ht4.out]; exact good_calls pp C (n + 1) cap2 W (hQ8.out.below h)
  clear hW hX hV hU
  obtain ⟨c0, c1, c2⟩ := (hB0.out.below hX8 hB0.out.lt).three
  have hl0 : w.heap.size < (w7.alloc (.cells #[.int .i64 (oo.getD Ver.zero).at_, .string (oo.getD Ver.zero).val, .bool (oo.getD Ver.zero).dead] 27)).heap.size := (hB0.out.below hX8 hB0.out.lt).lt
  obtain ⟨d0, d1, d2⟩ := (hBa.out.below hV8 hBa.out.lt).three
  have hl1 : w3.heap.size < (w7.alloc (.cells #[.int .i64 (oo.getD Ver.zero).at_, .string (oo.getD Ver.zero).val, .bool (oo.getD Ver.zero).dead] 27)).heap.size := (hBa.out.below hV8 hBa.out.lt).lt
  obtain ⟨e0, e1, e2⟩ := (hBo.out.below hU8 hBo.out.lt).three
  have hl2 : w5.heap.size < (w7.alloc (.cells #[.int .i64 (oo.getD Ver.zero).at_, .string (oo.getD Ver.zero).val, .bool (oo.getD Ver.zero).dead] 27)).heap.size := (hBo.out.below hU8 hBo.out.lt).lt
  obtain ⟨f0, f1, f2⟩ := hBd.out.three
  have hl3 : w7.heap.size < (w7.alloc (.cells #[.int .i64 (oo.getD Ver.zero).at_, .string (oo.getD Ver.zero).val, .bool (oo.getD Ver.zero).dead] 27)).heap.size := hBd.out.lt
  go_wp2_with fail
  generalize w7.alloc (.cells #[.int .i64 (oo.getD Ver.zero).at_, .string (oo.getD Ver.zero).val, .bool (oo.getD Ver.zero).dead] 27) = w8 at *
  refine wp_region_later (by kernel_rfl) (by kernel_rfl) ?_
  repeat (go_big_quiet_step (first | (go_at_call 9; exact calls_later (hG.out _ (later_from hS8 (by simp) _))) | (go_at_call 18; exact calls_later (hL.out _ (later_from hS8 (by simp) _)))))
  refine wpQuiet_nil ?_
  rintro _ ⟨e, rfl⟩
  have hS := later_from hS8 (by simp) e
  clear c0 c1 c2 d0 d1 d2 e0 e1 e2 f0 f1 f2 hl0 hl1 hl2 hl3 hL hG
  generalize later _ e = w9 at *
  have hW := hW8.trans (hS.mono hW8.size)
  obtain ⟨c0, c1, c2⟩ := ((hB0.out.below hX8 hB0.out.lt).below hS (hB0.out.below hX8 hB0.out.lt).lt).three
  have hl0 : w.heap.size < w9.heap.size := ((hB0.out.below hX8 hB0.out.lt).below hS (hB0.out.below hX8 hB0.out.lt).lt).lt
  obtain ⟨e0, e1, e2⟩ := ((hBo.out.below hU8 hBo.out.lt).below hS (hBo.out.below hU8 hBo.out.lt).lt).three
  have hl2 : w5.heap.size < w9.heap.size := ((hBo.out.below hU8 hBo.out.lt).below hS (hBo.out.below hU8 hBo.out.lt).lt).lt
  obtain ⟨f0, f1, f2⟩ := (hBd.out.below hS hBd.out.lt).three
  have hl3 : w7.heap.size < w9.heap.size := (hBd.out.below hS hBd.out.lt).lt
  have hP9 := Lib.hid (hP8.out.below hS)
  have hQ9 := Lib.hid (hQ8.out.below hS)
  clear hP8 hQ8 hS8 hS hX8 hV8 hU8 hW8 hB0 hBa hBo hBd
  go_wp2_with fail
  -- the last line
  refine (last_calls l A n cap _ (H.out.below hW)).mono ?_
  rintro e w10 ⟨rfl, hb⟩
  replace hW := hW.trans (hb.mono hW.size)
  have hP10 := Lib.hid (hP9.out.below hb)
  have hQ10 := Lib.hid (hQ9.out.below hb)
  clear c0 c1 c2 e0 e1 e2 f0 f1 f2 hl0 hl2 hl3 hP9 hQ9 hb
  go_wp2_with fail
  refine (cut_calls pp C (n + 1) cap2 _ _ hQ10.out (by omega)).mono ?_
  rw [ht5.out]
  rintro e w11 ⟨u, rfl, hu, hb⟩
  obtain ⟨D, cap3, rfl, -⟩ := hu.form
  rw [hln] at hu ⊢
  replace hW := hW.trans (hb.mono hW.size)
  have hP11 := Lib.hid (hP10.out.below hb)
  have hR := Lib.hid (hu.mono (ok' := fun _ => True) fun _ _ => trivial)
  clear hP10 hQ10 hu hb
  go_wp2_with fail
  refine (plain_calls l D n cap3 _ hR.out (by omega)).mono ?_
  rintro e w12 ⟨u, rfl, hu, hb⟩
  obtain ⟨E, cap4, rfl, -⟩ := hu.form
  rw [hln] at hu ⊢
  replace hW := hW.trans (hb.mono hW.size)
  have hP12 := Lib.hid (hP11.out.below hb)
  have hR2 := Lib.hid (hu.mono (ok' := fun _ => True) fun _ _ => trivial)
  clear hP11 hR hu hb
  go_wp2_with fail
  refine (same_calls l E B n n cap4 cap1 _ hR2.out hP12.out).mono ?_
  rintro e w13 ⟨rfl, hb⟩
  replace hW := hW.trans (hb.mono hW.size)
  have hP13 := Lib.hid (hP12.out.below hb)
  clear hP12 hR2 hb
  go_wp2_with fail
  refine (plain_calls l A n cap _ (H.out.below hW) (by omega)).mono ?_
  rintro e w14 ⟨u, rfl, hu, hb⟩
  obtain ⟨F, cap5, rfl, -⟩ := hu.form
  rw [hln] at hu ⊢
  replace hW := hW.trans (hb.mono hW.size)
  have hP14 := Lib.hid (hP13.out.below hb)
  have hR2 := Lib.hid (hu.mono (ok' := fun _ => True) fun _ _ => trivial)
  clear hP13 hu hb
  go_wp2_with fail
  refine (same_calls l F B n n cap5 cap1 _ hR2.out hP14.out).mono ?_
  rintro e w15 ⟨rfl, hb⟩
  replace hW := hW.trans (hb.mono hW.size)
  clear hP14 hR2 hb
  go_wp2_with fail
  refine (lives_calls _).mono ?_
  rintro e w16 ⟨rfl, hb⟩
  replace hW := hW.trans (hb.mono hW.size)
  go_wp2
  go_ret
  exact ⟨rfl, hW⟩

theorem chainPuts_calls (l : List Ver) (v : Ver) (A : Option Addr) (n cap : Nat) (y : Int) (w : World) (hl : Sl tVer w (fun _ => True) (.slice A n cap) l) :
    Calls Try.prog 7 #[.slice A n cap, .agg #[.int .i64 v.at_, .string v.val, .bool v.dead], .int .i64 y] w fun e w' => e = .returned (.bool true) ∧ Below w.heap.size w w' := by
  obtain ⟨va, vs, vd⟩ := v
  by_cases hn : (300 : Int) < (n : Int)
  · have hb0 : Below w.heap.size w (w.alloc (.cells #[.int .i64 va, .string vs, .bool vd] 27)) := (Below.refl _ _).alloc (Nat.le_refl _) _
    have HB := Lib.hid hb0
    clear hb0 hl
    go_enter Try.func7, Try.ntmps7
    go_wp2_with fail
    refine (lives_calls _).mono ?_
    rintro e w1 ⟨rfl, hb1⟩
    go_wp2
    go_ret
    exact ⟨rfl, HB.out.trans (hb1.mono HB.out.size)⟩
  · cases h : canPut l ⟨va, vs, vd⟩
    · exact puts_no l va vs vd A n cap y w hl hn h
    · cases vd <;> by_cases hy : y < va
      · exact puts_yes_false_ahead l va vs A n cap y w hl hn h hy
      · exact puts_yes_false_behind l va vs A n cap y w hl hn h hy
      · exact puts_yes_true_ahead l va vs A n cap y w hl hn h hy
      · exact puts_yes_true_behind l va vs A n cap y w hl hn h hy

/-- The walk, as the row asks for it. -/
theorem chainPuts_row (W : World) (l : List Ver) (A : Option Addr) (n cap : Nat) (hl : Sl tVer W (fun _ => True) (.slice A n cap) l) (_ : ∀ x ∈ l, True) (v : Ver) (cs : Array Value) (hv : tVer.K W (fun _ => True) v cs.toList) (_ : True) (y : Int) (_ : (Lit.int .i64 y).wf = true) :
    Calls Try.prog 7 #[.slice A n cap, .agg cs, .int .i64 y] W fun e w' => e = .returned (.bool true) ∧ Below W.heap.size W w' := by
  have hc : cs = #[.int .i64 v.at_, .string v.val, .bool v.dead] := by
    have h : cs.toList = v.enc := hv
    rw [← Array.toArray_toList (xs := cs), h]; rfl
  rw [hc]
  exact chainPuts_calls l v A n cap y W hl
end Go.Proofs.Ytdoigefmmjhjcaa
