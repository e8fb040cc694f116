import Derived.Test.YtlbcckdbpgofmaaW9
/-! Light: it comes to an end, with a number. -/
namespace Go.Proofs.Ytlbcckdbpgofmaa
open Go.RowKit Go.Op

/-- The texts of pairs are no longer than a machine holds. -/
def Short (l : List Pair) : Prop := ∀ p ∈ l, p.key.size ≤ 140737488351232 ∧ p.val.size ≤ 140737488351232
def ShortR (l : List Rd) : Prop := ∀ x ∈ l, x.key.size ≤ 140737488351232 ∧ x.to.size ≤ 140737488351232 ∧ Short x.pairs ∧ x.pairs.length ≤ 140737488351232

set_option maxHeartbeats 4000000 in
theorem light_calls (s sn : Int) (st : Bool) (R : Option Addr) (nr cr : Nat) (W : Option Addr) (nw cw : Nat) (ws : List Pair) (rs : List Rd) (left : Int) (w : World) (hw : Sl tPair w (fun _ => True) (.slice W nw cw) ws) (hr : Sl tRead w (fun _ => True) (.slice R nr cr) rs) (hsw : Short ws) (hsr : ShortR rs) (hnw : nw ≤ 140737488351232) (hnr : nr ≤ 140737488351232) (h0 : 0 ≤ left) (h6 : left ≤ 600) :
    Calls Try.prog 24 #[.agg #[.int .i64 s, .int .i64 sn, .bool st, .slice R nr cr, .slice W nw cw], .int .i64 left] w fun e w' => ∃ z : Int, e = .returned (.int .i64 z) ∧ z ≤ 600 ∧ Below w.heap.size w w' := by
  obtain ⟨hwn, hwc, hwm⟩ := hw.length
  obtain ⟨hrn, hrc, hrm⟩ := hr.length
  have hb0 : Below w.heap.size w (w.alloc (.cells #[.int .i64 s, .int .i64 sn, .bool st, .slice R nr cr, .slice W nw cw] 25)) := (Below.refl _ _).alloc (Nat.le_refl _) _
  have HBr := Lib.hid (Blk.new w #[.int .i64 s, .int .i64 sn, .bool st, .slice R nr cr, .slice W nw cw] 25)
  have HX := Lib.hid (Below.refl (w.alloc (.cells #[.int .i64 s, .int .i64 sn, .bool st, .slice R nr cr, .slice W nw cw] 25)).heap.size (w.alloc (.cells #[.int .i64 s, .int .i64 sn, .bool st, .slice R nr cr, .slice W nw cw] 25)))
  have HB := Lib.hid hb0
  have HW := Lib.hid hw
  have HR := Lib.hid hr
  have HSW := Lib.hid hsw
  have HSR := Lib.hid hsr
  clear hb0 hw hr hsw hsr
  by_cases h1 : left - (1 + nr + nw) < 0
  · go_enter Try.func24, Try.ntmps24
    go_wp2
    go_ret
    exact ⟨-1, rfl, by omega, HB.out⟩
  by_cases h2 : 100 < nr
  · go_enter Try.func24, Try.ntmps24
    go_wp2
    go_ret
    exact ⟨-1, rfl, by omega, HB.out⟩
  by_cases h3 : 100 < nw
  · go_enter Try.func24, Try.ntmps24
    go_wp2
    go_ret
    exact ⟨-1, rfl, by omega, HB.out⟩
  go_enter Try.func24, Try.ntmps24
  go_wp2
  generalize hz0 : left - (1 + (nr : Int) + nw) = z0 at *
  have hz1 : 0 ≤ z0 := by omega
  have hz2 : z0 ≤ 600 := by omega
  clear hz0 h0 h6
  generalize w.alloc (.cells #[.int .i64 s, .int .i64 sn, .bool st, .slice R nr cr, .slice W nw cw] 25) = w0 at *
  go_loopw [1, 38] (fun v i w' => ∃ (k : Nat) (z : Int), k ≤ nw ∧ i = .int .i64 k ∧ v = .int .i64 z ∧ 0 ≤ z ∧ z ≤ 600 ∧ Below w0.heap.size w0 w') (fun _ i _ => nw - (intOf i).toNat)
  case atStart => exact ⟨0, z0, by omega, rfl, rfl, hz1, hz2, HX.out⟩
  case round =>
    obtain ⟨k, z, hk, rfl, rfl, hz3, hz4, hb⟩ := hrel
    have hbw := HB.out.trans (hb.mono HB.out.size)
    by_cases hlt : k < nw
    · obtain ⟨p, hp⟩ := some_at (show k < ws.length by omega)
      obtain ⟨b, off, rfl, hbl, g0, g1, g2⟩ := sl_pair (HW.out.below hbw) hp
      obtain ⟨hk1, hk2⟩ := HSW.out p (List.mem_of_getElem? hp)
      clear hp
      have hb' := hb.alloc hb.size (.cells #[.string p.key, .string p.val, .bool p.dead] 37)
      have hbw' := hbw.alloc hbw.size (.cells #[.string p.key, .string p.val, .bool p.dead] 37)
      have HB1 := Lib.hid hb'
      have HB2 := Lib.hid hbw'
      clear hb' hbw'
      go_wp2
      · go_ret
        exact ⟨-1, rfl, by omega, HB2.out⟩
      · go_roundw
        case rel => exact ⟨k + 1, _, by omega, by go_num, rfl, by omega, by omega, HB1.out⟩
        case measure => simp [intOf]; omega
    · obtain ⟨c0, c1, c2, c3, c4⟩ := rec_cells _ _ _ _ _ _ _ _ _ (HBr.out.below hb HBr.out.lt)
      have hgl := (HBr.out.below hb HBr.out.lt).lt
      go_wp2
      clear c0 c1 c2 c3 c4 hgl
      have hX2 := Lib.hid (Below.refl wr.heap.size wr)
      generalize wr = w2 at *
      go_loopw [1, 58] (fun v i w' => ∃ (k : Nat) (z : Int), k ≤ nr ∧ i = .int .i64 k ∧ v = .int .i64 z ∧ -35184372088832 ≤ z ∧ z ≤ 600 ∧ Below w.heap.size w w') (fun _ i _ => nr - (intOf i).toNat)
      case atStart => exact ⟨0, z, by omega, rfl, rfl, by omega, hz4, hbw⟩
      case round =>
        clear hbw hb hX2 hz3 hz4 hk hlt
        obtain ⟨k, z, hk, rfl, rfl, hz3, hz4, hb⟩ := hrel
        by_cases hlt : k < nr
        · obtain ⟨x, hx⟩ := some_at (show k < rs.length by omega)
          obtain ⟨b, off, P, np, cp, rfl, hbl, g0, g1, g2, g3, hP⟩ := sl_read (HR.out.below hb) hx
          obtain ⟨hk1, hk2, hk3, hk4⟩ := HSR.out x (List.mem_of_getElem? hx)
          have hpl := hP.length.1
          have hb' := hb.alloc hb.size (.cells #[.bool x.scan, .string x.key, .string x.to, .slice P np cp] 41)
          have HB2 := Lib.hid hb'
          have HS3 := Lib.hid hk3
          have HP := Lib.hid (hP.below ((Below.refl _ _).alloc (Nat.le_refl _) (.cells #[.bool x.scan, .string x.key, .string x.to, .slice P np cp] 41)))
          have hX3 := Lib.hid (Below.refl (wr.alloc (.cells #[.bool x.scan, .string x.key, .string x.to, .slice P np cp] 41)).heap.size (wr.alloc (.cells #[.bool x.scan, .string x.key, .string x.to, .slice P np cp] 41)))
          rw [hpl] at hk4
          have HPL := Lib.hid hpl
          clear hb' hk3 hP hx hpl
          by_cases hzp : z < (np : Int)
          · go_wp2
            go_ret
            exact ⟨-1, rfl, by omega, HB2.out⟩
          · go_wp2
            generalize wr.alloc (.cells #[.bool x.scan, .string x.key, .string x.to, .slice P np cp] 41) = w3 at *
            go_loopw [1, 84] (fun v i w' => ∃ (k : Nat) (z : Int), k ≤ np ∧ i = .int .i64 k ∧ v = .int .i64 z ∧ -35184372088832 ≤ z ∧ z ≤ 600 ∧ Below w3.heap.size w3 w') (fun _ i _ => np - (intOf i).toNat)
            case atStart => exact ⟨0, _, by omega, rfl, rfl, by omega, by omega, hX3.out⟩
            case round =>
              clear g0 g1 g2 g3 hbl hz3 hz4 hb
              obtain ⟨k2, z2, hk2', rfl, rfl, hz3, hz4, hb⟩ := hrel
              have hbw := HB2.out.trans (hb.mono HB2.out.size)
              by_cases hlt2 : k2 < np
              · obtain ⟨p, hp⟩ := some_at (show k2 < x.pairs.length by rw [HPL.out]; exact hlt2)
                obtain ⟨b', off', rfl, hbl, g0, g1, g2⟩ := sl_pair (HP.out.below hb) hp
                obtain ⟨hp1, hp2⟩ := HS3.out p (List.mem_of_getElem? hp)
                clear hp
                have hb' := hb.alloc hb.size (.cells #[.string p.key, .string p.val, .bool p.dead] 37)
                have hbw' := hbw.alloc hbw.size (.cells #[.string p.key, .string p.val, .bool p.dead] 37)
                have HB3 := Lib.hid hb'
                have HB4 := Lib.hid hbw'
                clear hb' hbw'
                go_wp2
                · go_ret
                  exact ⟨-1, rfl, by omega, HB4.out⟩
                · go_roundw
                  case rel => exact ⟨k2 + 1, _, by omega, by go_num, rfl, by omega, by omega, HB3.out⟩
                  case measure => simp [intOf]; omega
              · go_wp2
                exact ⟨⟨k + 1, z2, by omega, by go_num, rfl, hz3, hz4, hbw⟩, by simp [intOf]; omega⟩
        · go_wp2
          go_ret
          exact ⟨z, rfl, hz4, hb⟩

/-- No part of a record is larger than a machine holds. -/
def RecOk (r : Rec) : Prop := Short r.writes ∧ ShortR r.reads ∧ r.writes.length ≤ 140737488351232 ∧ r.reads.length ≤ 140737488351232

set_option maxHeartbeats 1000000 in
theorem lights_calls (l : List Rec) (A : Option Addr) (n cap : Nat) (w : World) (hl : Sl tRec w (fun _ => True) (.slice A n cap) l) (ho : ∀ r ∈ l, RecOk r) :
    Calls Try.prog 9 #[.slice A n cap] w fun e w' => ∃ b : Bool, e = .returned (.bool b) ∧ Below w.heap.size w w' := by
  obtain ⟨hln, hcap, hm⟩ := hl.length
  have H := Lib.hid hl
  have HO := Lib.hid ho
  clear hl ho
  by_cases h40 : 40 < n
  · go_enter Try.func9, Try.ntmps9
    go_wp2
    go_ret
    exact ⟨false, rfl, Below.refl _ _⟩
  go_enter Try.func9, Try.ntmps9
  go_wp2
  go_loopw [3, 11] (fun v i w' => ∃ (k : Nat) (z : Int), k ≤ n ∧ i = .int .i64 k ∧ v = .int .i64 z ∧ 0 ≤ z ∧ z ≤ 600 ∧ Below w.heap.size w w') (fun _ i _ => n - (intOf i).toNat)
  case atStart => exact ⟨0, 600, by omega, rfl, rfl, by omega, by omega, Below.refl _ _⟩
  case round =>
    obtain ⟨k, z, hk, rfl, rfl, hz3, hz4, hb⟩ := hrel
    by_cases hlt : k < n
    · obtain ⟨o, hx⟩ := some_at (show k < l.length by omega)
      obtain ⟨b, off, R, nr, cr, W, nw, cw, rfl, hbl, h0, h1, h2, h3, h4, hr, hw⟩ := sl_rec (H.out.below hb) hx
      obtain ⟨o1, o2, o3, o4⟩ := HO.out o (List.mem_of_getElem? hx)
      have hb1 : Below wr.heap.size wr (wr.alloc (.cells #[.int .i64 o.sess, .int .i64 o.snap, .bool o.strict, .slice R nr cr, .slice W nw cw] 25)) := (Below.refl _ _).alloc (Nat.le_refl _) _
      have HC := Lib.hid (light_calls o.sess o.snap o.strict R nr cr W nw cw o.writes o.reads z _ (hw.below hb1) (hr.below hb1) o1 o2 (by have := hw.length.1; omega) (by have := hr.length.1; omega) hz3 hz4)
      have HB1 := Lib.hid hb1
      have HB := Lib.hid hb
      clear hr hw hb1 hb o1 o2 o3 o4 hx
      go_wp2_with fail
      refine HC.out.mono ?_
      rintro e w1 ⟨z', rfl, hz5, hb2⟩
      have hbf := HB.out.trans ((HB1.out.trans (hb2.mono HB1.out.size)).mono HB.out.size)
      clear hb2
      by_cases hz6 : z' < 0
      · go_wp2
        go_ret
        exact ⟨false, rfl, hbf⟩
      · go_wp2
        go_roundw
        case rel => exact ⟨k + 1, z', by omega, by go_num, rfl, by omega, hz5, hbf⟩
        case measure => simp [intOf]; omega
    · go_wp2
      go_ret
      exact ⟨true, rfl, hb⟩
end Go.Proofs.Ytlbcckdbpgofmaa
