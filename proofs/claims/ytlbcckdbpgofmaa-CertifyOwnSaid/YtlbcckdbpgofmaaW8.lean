import Derived.Test.YtlbcckdbpgofmaaW7
/-! The document's Stale and May. -/
namespace Go.Proofs.Ytlbcckdbpgofmaa
open Go.RowKit Go.Op

set_option maxHeartbeats 2000000 in
/-- The document's Stale. -/
theorem rstale_calls (s sn : Int) (st : Bool) (R : Option Addr) (nr cr : Nat) (W : Option Addr) (nw cw : Nat) (rs : List Rd) (l : List Rec) (A : Option Addr) (n cap : Nat) (w : World) (hw : Sl tRead w (fun _ => True) (.slice R nr cr) rs) (hl : Sl tRec w (fun _ => True) (.slice A n cap) l) :
    Calls Try.prog 14 #[.agg #[.int .i64 s, .int .i64 sn, .bool st, .slice R nr cr, .slice W nw cw], .slice A n cap] w fun e w' => e = .returned (.int .i64 (stale rs l)) ∧ Below w.heap.size w w' := by
  obtain ⟨hln, hcap, hm⟩ := hl.length
  obtain ⟨hwn, hwc, hwm⟩ := hw.length
  have hb0 : Below w.heap.size w (w.alloc (.cells #[.int .i64 s, .int .i64 sn, .bool st, .slice R nr cr, .slice W nw cw] 25)) := (Below.refl _ _).alloc (Nat.le_refl _) _
  have HBr := Lib.hid (Blk.new w #[.int .i64 s, .int .i64 sn, .bool st, .slice R nr cr, .slice W nw cw] 25)
  have HX := Lib.hid (Below.refl (w.alloc (.cells #[.int .i64 s, .int .i64 sn, .bool st, .slice R nr cr, .slice W nw cw] 25)).heap.size (w.alloc (.cells #[.int .i64 s, .int .i64 sn, .bool st, .slice R nr cr, .slice W nw cw] 25)))
  have HS : Hid ((w.alloc (.cells #[.int .i64 s, .int .i64 sn, .bool st, .slice R nr cr, .slice W nw cw] 25)).heap.size = w.heap.size + 1) := by show _ = _; simp
  have HB := Lib.hid hb0
  have HW := Lib.hid hw
  have HL := Lib.hid hl
  clear hb0 hw hl
  go_enter Try.func14, Try.ntmps14
  go_wp2
  generalize w.alloc (.cells #[.int .i64 s, .int .i64 sn, .bool st, .slice R nr cr, .slice W nw cw] 25) = w0 at *
  go_loopw [11] (fun i w' => ∃ (j : Nat), j ≤ n ∧ i = .int .i64 j ∧ Hid (∀ a y, a < j → l[a]? = some y → (rs.any fun p => touches y.writes p) = false) ∧ Below w0.heap.size w0 w')
    (fun i _ => n - (intOf i).toNat)
  case atStart => exact ⟨0, by omega, rfl, fun a y ha => by omega, HX.out⟩
  case round =>
    obtain ⟨j, hj, rfl, hg, hb⟩ := hrel
    have hbw : Below w.heap.size w wr := HB.out.trans (hb.mono HB.out.size)
    by_cases hlt : j < n
    · obtain ⟨o, ho⟩ := some_at (show j < l.length by omega)
      obtain ⟨b, off, R2, nr2, cr2, W2, nw2, cw2, rfl, hbl, h0, h1, h2, h3, h4, -, ho2⟩ := sl_rec (HL.out.below hbw) ho
      obtain ⟨c0, c1, c2, c3, c4⟩ := rec_cells _ _ _ _ _ _ _ _ _ (HBr.out.below hb HBr.out.lt)
      have hgl := (HBr.out.below hb HBr.out.lt).lt
      have HO := Lib.hid ho
      have HO2 := Lib.hid ho2
      have hbn := Lib.hid ((Below.refl wr.heap.size wr).alloc (Nat.le_refl _) (.cells #[.int .i64 o.sess, .int .i64 o.snap, .bool o.strict, .slice R2 nr2 cr2, .slice W2 nw2 cw2] 25))
      have hBo := Lib.hid (Blk.new wr #[.int .i64 o.sess, .int .i64 o.snap, .bool o.strict, .slice R2 nr2 cr2, .slice W2 nw2 cw2] 25)
      have hX2 := Lib.hid (Below.refl (wr.alloc (.cells #[.int .i64 o.sess, .int .i64 o.snap, .bool o.strict, .slice R2 nr2 cr2, .slice W2 nw2 cw2] 25)).heap.size (wr.alloc (.cells #[.int .i64 o.sess, .int .i64 o.snap, .bool o.strict, .slice R2 nr2 cr2, .slice W2 nw2 cw2] 25)))
      clear ho ho2
      go_wp2
      generalize wr.alloc (.cells #[.int .i64 o.sess, .int .i64 o.snap, .bool o.strict, .slice R2 nr2 cr2, .slice W2 nw2 cw2] 25) = w1 at *
      have hb1 : Below w0.heap.size w0 w1 := hb.trans (hbn.out.mono hb.size)
      have hbw1 : Below w.heap.size w w1 := hbw.trans (hbn.out.mono hbw.size)
      have HO3 := Lib.hid (HO2.out.below hbn.out)
      clear hbn HO2 hb hbw c0 c1 c2 c3 c4 h0 h1 h2 h3 h4 hgl hbl
      go_loopw [19] (fun i w' => ∃ (k : Nat), k ≤ nr ∧ i = .int .i64 k ∧ Hid ((rs.any fun p => touches o.writes p) = (rs.drop k).any fun p => touches o.writes p) ∧ Below w1.heap.size w1 w') (fun i _ => nr - (intOf i).toNat)
      case atStart => exact ⟨0, by omega, rfl, rfl, hX2.out⟩
      case round =>
        obtain ⟨k, hk, rfl, hg2, hb2⟩ := hrel
        have hbo := hb1.trans (hb2.mono hb1.size)
        have hbwo := hbw1.trans (hb2.mono hbw1.size)
        by_cases hlt2 : k < nr
        · obtain ⟨p, hp⟩ := some_at (show k < rs.length by omega)
          obtain ⟨b', off', P, np, cp, rfl, hbl', g0, g1, g2, g3, -⟩ := sl_read (HW.out.below hbwo) hp
          obtain ⟨c0, c1, c2, c3, c4⟩ := rec_cells _ _ _ _ _ _ _ _ _ (hBo.out.below hb2 hBo.out.lt)
          have hgl := (hBo.out.below hb2 hBo.out.lt).lt
          have hb3 : Below wr.heap.size wr (wr.alloc (.cells #[.bool p.scan, .string p.key, .string p.to, .slice P np cp] 41)) := (Below.refl _ _).alloc (Nat.le_refl _) _
          have HC := Lib.hid (rtouches_calls o.sess o.snap o.strict R2 nr2 cr2 W2 nw2 cw2 p.scan p.key p.to p.pairs P np cp o.writes _ (HO3.out.below (hb2.trans (hb3.mono hb2.size))))
          have hst := Lib.hid (any_step hg2.out hp)
          have HB3 := Lib.hid hb3
          have HBO := Lib.hid hbo
          have HBWO := Lib.hid hbwo
          have HB2 := Lib.hid hb2
          clear hb3 hp hg2 hbo hbwo hb2
          cases hwv : touches o.writes p
          all_goals
            have hwv' := Lib.hid hwv
            rw [show touches o.writes ⟨p.scan, p.key, p.to, p.pairs⟩ = _ from hwv] at HC
            clear hwv
            go_wp2_with fail
            refine HC.out.mono ?_
            rintro e w3 ⟨rfl, hb4⟩
            have HB4 := HB3.out.trans (hb4.mono HB3.out.size)
            go_wp2
          · go_roundw
            case rel => exact ⟨k + 1, by omega, by go_num, (show _ = _ by rw [hst.out, hwv'.out]; rfl), HB2.out.trans (HB4.mono HB2.out.size)⟩
            case measure => simp [intOf]; omega
          · go_ret
            exact ⟨ret_int (idx_hit hg.out HO.out (by rw [hst.out, hwv'.out]; rfl)).symm, HBWO.out.trans (HB4.mono HBWO.out.size)⟩
        · go_wp2
          exact ⟨⟨j + 1, by omega, by go_num, seen_more hg.out HO.out (any_end hg2.out (by omega)).symm, hbo⟩, by simp [intOf]; omega⟩
    · go_wp2
      go_ret
      exact ⟨ret_int (idx_miss fun a y ha => hg.out a y (by have := (List.getElem?_eq_some_iff.1 ha).1; omega) ha).symm, hbw⟩

set_option maxHeartbeats 1000000 in
theorem rmay_calls (r : Rec) (R : Option Addr) (nr cr : Nat) (W : Option Addr) (nw cw : Nat) (l : List Rec) (A : Option Addr) (n cap : Nat) (w : World) (hr : Sl tRead w (fun _ => True) (.slice R nr cr) r.reads) (hw : Sl tPair w (fun _ => True) (.slice W nw cw) r.writes) (hl : Sl tRec w (fun _ => True) (.slice A n cap) l) :
    Calls Try.prog 16 #[.agg #[.int .i64 r.sess, .int .i64 r.snap, .bool r.strict, .slice R nr cr, .slice W nw cw], .slice A n cap] w fun e w' => e = .returned (.int .i64 (mayV r l)) ∧ Below w.heap.size w w' := by
  obtain ⟨s, sn, st, rs, ws⟩ := r
  have hb0 : Below w.heap.size w (w.alloc (.cells #[.int .i64 s, .int .i64 sn, .bool st, .slice R nr cr, .slice W nw cw] 25)) := (Below.refl _ _).alloc (Nat.le_refl _) _
  have HBr := Lib.hid (Blk.new w #[.int .i64 s, .int .i64 sn, .bool st, .slice R nr cr, .slice W nw cw] 25)
  have HC := Lib.hid (rclash_calls s sn st R nr cr W nw cw ws l A n cap _ (hw.below hb0) (hl.below hb0))
  have HT : Hid (∀ W', Below w.heap.size w W' → Calls Try.prog 14 #[.agg #[.int .i64 s, .int .i64 sn, .bool st, .slice R nr cr, .slice W nw cw], .slice A n cap] W' fun e w' => e = .returned (.int .i64 (stale rs l)) ∧ Below W'.heap.size W' w') := fun W' h => rstale_calls s sn st R nr cr W nw cw rs l A n cap W' (hr.below h) (hl.below h)
  have HM : Hid (mayNot ⟨s, sn, st, rs, ws⟩ l = (decide (0 ≤ clash ws l) || (st && decide (0 ≤ stale rs l)))) := rfl
  have HB := Lib.hid hb0
  clear hb0 hr hw hl
  generalize clash ws l = z1 at *
  generalize stale rs l = z2 at *
  by_cases h1 : 0 ≤ z1
  · have HR : Hid (mayV ⟨s, sn, st, rs, ws⟩ l = 10) := by unfold mayV; rw [HM.out, decide_eq_true h1]; rfl
    go_enter Try.func16, Try.ntmps16
    go_wp2_with fail
    refine HC.out.mono ?_
    rintro e w1 ⟨rfl, hb⟩
    go_wp2
    go_ret
    exact ⟨by rw [HR.out]; rfl, HB.out.trans (hb.mono HB.out.size)⟩
  · cases st
    · have HR : Hid (mayV ⟨s, sn, false, rs, ws⟩ l = 0) := by unfold mayV; rw [HM.out, decide_eq_false h1]; rfl
      go_enter Try.func16, Try.ntmps16
      go_wp2_with fail
      refine HC.out.mono ?_
      rintro e w1 ⟨rfl, hb⟩
      obtain ⟨c0, c1, c2, c3, c4⟩ := rec_cells _ _ _ _ _ _ _ _ _ (HBr.out.below hb HBr.out.lt)
      have hgl := (HBr.out.below hb HBr.out.lt).lt
      go_wp2
      go_ret
      exact ⟨by rw [HR.out]; rfl, HB.out.trans (hb.mono HB.out.size)⟩
    · have HR : Hid (mayV ⟨s, sn, true, rs, ws⟩ l = if decide (0 ≤ z2) then 10 else 0) := by unfold mayV; rw [HM.out, decide_eq_false h1]; rfl
      go_enter Try.func16, Try.ntmps16
      go_wp2_with fail
      refine HC.out.mono ?_
      rintro e w1 ⟨rfl, hb⟩
      obtain ⟨c0, c1, c2, c3, c4⟩ := rec_cells _ _ _ _ _ _ _ _ _ (HBr.out.below hb HBr.out.lt)
      have hgl := (HBr.out.below hb HBr.out.lt).lt
      have hW := HB.out.trans (hb.mono HB.out.size)
      clear hb
      by_cases h2 : 0 ≤ z2
      all_goals
        go_wp2_with fail
        refine (HT.out _ hW).mono ?_
        rintro e w2 ⟨rfl, hb2⟩
        go_wp2
        go_ret
      · exact ⟨by rw [HR.out, decide_eq_true h2]; rfl, hW.trans (hb2.mono hW.size)⟩
      · exact ⟨by rw [HR.out, decide_eq_false (Int.not_le.2 h2)]; rfl, hW.trans (hb2.mono hW.size)⟩

end Go.Proofs.Ytlbcckdbpgofmaa
