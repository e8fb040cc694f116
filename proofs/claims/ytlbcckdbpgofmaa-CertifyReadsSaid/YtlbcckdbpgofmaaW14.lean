import Derived.Test.YtlbcckdbpgofmaaW13
/-! CertifyReads. -/
namespace Go.Proofs.Ytlbcckdbpgofmaa
open Go.RowKit Go.Op

theorem wrote_mem {ws : List Pair} {p : Pair} (h : p ∈ ws) : wrote ws p.key = true := List.any_eq_true.2 ⟨p, h, by simp⟩
theorem touches_mem {ws : List Pair} {p : Pair} (h : p ∈ ws) (t : ByteArray) (ps : List Pair) : touches ws ⟨false, p.key, t, ps⟩ = true := List.any_eq_true.2 ⟨p, h, by simp [hit]⟩
theorem touches_scan {ws : List Pair} {p : Pair} (h : p ∈ ws) {f t : ByteArray} (ps : List Pair) (h1 : bytesLess p.key.toList f.toList = false) (h2 : bytesLess p.key.toList t.toList = true) : touches ws ⟨true, f, t, ps⟩ = true := List.any_eq_true.2 ⟨p, h, by simp [hit, h1, h2]⟩
theorem clash_idle (l : List Rec) : clash [] l = -1 := by
  unfold clash idx
  rw [if_neg]
  simp
theorem clash_idle2 (ws : List Pair) (o : Rec) (h : o.writes = []) : clash ws [o] = -1 := by
  rw [clash_one, h]; simp [wrote]
theorem stale_idle (rs : List Rd) (o : Rec) (h : o.writes = []) : stale rs [o] = -1 := by
  unfold stale idx
  rw [if_neg]
  simp [h, touches]

set_option maxHeartbeats 4000000 in
theorem reads_calls (s sn : Int) (st : Bool) (R : Option Addr) (nr cr : Nat) (W : Option Addr) (nw cw : Nat) (rs : List Rd) (ws : List Pair) (f t : ByteArray) (w : World)
    (hr : Sl tRead w (fun _ => True) (.slice R nr cr) rs) (hw : Sl tPair w (fun _ => True) (.slice W nw cw) ws) (hro : RecOk ⟨s, sn, st, rs, ws⟩) (hf : f.size ≤ 140737488351232) (ht : t.size ≤ 140737488351232) :
    Calls Try.prog 6 #[.agg #[.int .i64 s, .int .i64 sn, .bool st, .slice R nr cr, .slice W nw cw], .string f, .string t] w fun e w' => e = .returned (.bool true) ∧ Below w.heap.size w w' := by
  have HWR := Lib.hid hr
  have HWW := Lib.hid hw
  have HRO := Lib.hid hro
  have HB0 := Lib.hid (Blk.new w #[.int .i64 s, .int .i64 sn, .bool st, .slice R nr cr, .slice W nw cw] 25)
  have HY : Hid (Below w.heap.size w (w.alloc (.cells #[.int .i64 s, .int .i64 sn, .bool st, .slice R nr cr, .slice W nw cw] 25))) := (Below.refl _ _).alloc (Nat.le_refl _) _
  have HZ : Hid ((w.alloc (.cells #[.int .i64 s, .int .i64 sn, .bool st, .slice R nr cr, .slice W nw cw] 25)).heap.size = w.heap.size + 1) := by show _ = _; simp
  have HS2 : Hid (Sl tRec ((w.alloc (.cells #[.int .i64 s, .int .i64 sn, .bool st, .slice R nr cr, .slice W nw cw] 25)).alloc (.cells #[.int .i64 s, .int .i64 sn, .bool st, .slice R nr cr, .slice W nw cw] 25)) (fun _ => True) (.slice (some ⟨w.heap.size + 1, 0, none⟩) 1 1) [⟨s, sn, st, rs, ws⟩]) := by
    have hb2 : Below w.heap.size w ((w.alloc (.cells #[.int .i64 s, .int .i64 sn, .bool st, .slice R nr cr, .slice W nw cw] 25)).alloc (.cells #[.int .i64 s, .int .i64 sn, .bool st, .slice R nr cr, .slice W nw cw] 25)) := HY.out.alloc HY.out.size _
    exact (one_rec' (ok := fun _ => True) (x := ⟨s, sn, st, rs, ws⟩) _ _ _ _ _ _ _ _ _ (blk_new (by rw [HZ.out])) (rec_mk (x := ⟨s, sn, st, rs, ws⟩) (hr.below hb2) (hw.below hb2))).mono fun _ _ => trivial
  clear hr hw hro
  go_enter Try.func6, Try.ntmps6
  go_wp2_with fail
  refine (lights_calls [⟨s, sn, st, rs, ws⟩] _ 1 1 _ HS2.out (fun x hx => by rw [List.mem_singleton.1 hx]; exact HRO.out)).mono ?_
  rintro e w1 ⟨b, rfl, hb1⟩
  have HW1 := Lib.hid (HY.out.trans (((Below.refl _ _).alloc (Nat.le_refl _) _).trans (hb1.mono (by simp)) |>.mono HY.out.size))
  have HB1 := Lib.hid ((HB0.out.alloc (.cells #[.int .i64 s, .int .i64 sn, .bool st, .slice R nr cr, .slice W nw cw] 25)).below hb1 (HB0.out.alloc _).lt)
  have HZ1 : Hid (w.heap.size + 1 ≤ w1.heap.size) := by
    have := hb1.size
    simp at this
    show _ ≤ _
    omega
  clear hb1 HS2 HB0 HY HZ
  by_cases hgo : b = true ∧ f.size + t.size ≤ 300
  · obtain ⟨rfl, hlen⟩ := hgo
    obtain ⟨c0, c1, c2, c3, c4⟩ := rec_cells _ _ _ _ _ _ _ _ _ HB1.out
    have q0 := HB1.out.lt
    go_wp2
    have HW2 : Hid (Below w.heap.size w (w1.alloc (.cells #[.int .i64 s, .int .i64 sn, .bool st, .slice R nr cr, .slice none 0 0] 25))) := HW1.out.alloc HW1.out.size _
    have HB2 : Hid (Blk (w1.alloc (.cells #[.int .i64 s, .int .i64 sn, .bool st, .slice R nr cr, .slice none 0 0] 25)) w.heap.size #[.int .i64 s, .int .i64 sn, .bool st, .slice R nr cr, .slice W nw cw] 25) := HB1.out.alloc _
    have HI2 : Hid (Blk (w1.alloc (.cells #[.int .i64 s, .int .i64 sn, .bool st, .slice R nr cr, .slice none 0 0] 25)) w1.heap.size #[.int .i64 s, .int .i64 sn, .bool st, .slice R nr cr, .slice none 0 0] 25) := Blk.new _ _ _
    clear HW1 HB1 HZ1 c0 c1 c2 c3 c4 q0
    generalize w1.alloc (.cells #[.int .i64 s, .int .i64 sn, .bool st, .slice R nr cr, .slice none 0 0] 25) = w2 at *
    generalize w1.heap.size = g7 at *
    have hln := HWW.out.length.1
    have hwn : nw ≤ 4611686018427387904 := by
      have h2 := HRO.out.2.2.1
      simp at h2; omega
    have hX0 := Lib.hid (Below.refl w2.heap.size w2)
    go_loopw [9, 34] (fun _ i w' => ∃ (k : Nat), k ≤ nw ∧ i = .int .i64 k ∧ Below w2.heap.size w2 w') (fun _ i _ => nw - (intOf i).toNat)
    case atStart => exact ⟨0, by omega, rfl, hX0.out⟩
    case round =>
      obtain ⟨k, hk, rfl, hb⟩ := hrel
      have HBW := Lib.hid (HW2.out.trans (hb.mono HW2.out.size))
      by_cases hlt : k < nw
      · obtain ⟨p, hp⟩ := some_at (show k < ws.length by omega)
        obtain ⟨b, off, rfl, hbl, g0, g1, g2⟩ := sl_pair (HWW.out.below HBW.out) hp
        have hpm := List.mem_of_getElem? hp
        have HB3 := Lib.hid (HB2.out.below hb HB2.out.lt)
        have HI3 := Lib.hid (HI2.out.below hb HI2.out.lt)
        have HBB := Lib.hid hb
        have hm1 := Lib.hid (wrote_mem hpm)
        have hm2 := Lib.hid (touches_mem hpm ByteArray.empty [])
        have hm3 : Hid (bytesLess p.key.toList f.toList = false → bytesLess p.key.toList t.toList = true → touches ws ⟨true, f, t, []⟩ = true) := fun h1 h2 => touches_scan hpm [] h1 h2
        clear hp hpm hb
        obtain ⟨c0, c1, c2, c3, c4⟩ := rec_cells _ _ _ _ _ _ _ _ _ HB3.out
        have q0 := HB3.out.lt
        have qi := HI3.out.lt
        have hP3 : Hid (Blk (wr.alloc (.cells #[.string p.key, .string p.val, .bool p.dead] 37)) wr.heap.size #[.string p.key, .string p.val, .bool p.dead] 37) := Blk.new _ _ _
        have hW3 := Lib.hid (HBW.out.alloc HBW.out.size (.cells #[.string p.key, .string p.val, .bool p.dead] 37))
        have hB3' := Lib.hid (HBB.out.alloc HBB.out.size (.cells #[.string p.key, .string p.val, .bool p.dead] 37))
        have HB4 := Lib.hid (HB3.out.alloc (.cells #[.string p.key, .string p.val, .bool p.dead] 37))
        have HI4 := Lib.hid (HI3.out.alloc (.cells #[.string p.key, .string p.val, .bool p.dead] 37))
        go_wp2_with fail
        clear hbl g0 g1 g2 c0 c1 c2 c3 c4 q0 qi
        generalize wr.alloc (.cells #[.string p.key, .string p.val, .bool p.dead] 37) = w3 at *
        generalize wr.heap.size = g9 at *
        have hc := wrote_calls s sn st R nr cr (some ⟨b, off, none⟩) nw cw ws p.key w3 (HWW.out.below hW3.out) hwn
        rw [hm1.out] at hc
        refine hc.mono ?_
        clear hc
        rintro e w4 ⟨rfl, hb4⟩
        have hW4 := Lib.hid (hW3.out.trans (hb4.mono hW3.out.size))
        have hB4' := Lib.hid (hB3'.out.trans (hb4.mono hB3'.out.size))
        have HB5 := Lib.hid (HB4.out.below hb4 HB4.out.lt)
        have HI5 := Lib.hid (HI4.out.below hb4 HI4.out.lt)
        have hP4 := Lib.hid (hP3.out.below hb4 hP3.out.lt)
        clear hb4 hW3 hB3' HB4 HI4 hP3
        obtain ⟨c0, c1, c2, c3, c4⟩ := rec_cells _ _ _ _ _ _ _ _ _ HB5.out
        obtain ⟨d0, d1, d2⟩ := hP4.out.three
        have q0 := HB5.out.lt
        have qp := hP4.out.lt
        go_wp2_with fail
        clear c0 c1 c2 c3 c4 d0 d1 d2 q0 qp
        have hc := touches_calls s sn st R nr cr (some ⟨b, off, none⟩) nw cw false p.key ByteArray.empty [] none 0 0 ws w4 (HWW.out.below hW4.out) hwn
        rw [hm2.out] at hc
        refine hc.mono ?_
        clear hc
        rintro e w5 ⟨rfl, hb4⟩
        have hW5 := Lib.hid (hW4.out.trans (hb4.mono hW4.out.size))
        have hB5' := Lib.hid (hB4'.out.trans (hb4.mono hB4'.out.size))
        have HB6 := Lib.hid (HB5.out.below hb4 HB5.out.lt)
        have HI6 := Lib.hid (HI5.out.below hb4 HI5.out.lt)
        have hP5 := Lib.hid (hP4.out.below hb4 hP4.out.lt)
        clear hb4 hW4 hB4' HB5 HI5 hP4
        obtain ⟨c0, c1, c2, c3, c4⟩ := rec_cells _ _ _ _ _ _ _ _ _ HI6.out
        obtain ⟨d0, d1, d2⟩ := hP5.out.three
        have q0 := HI6.out.lt
        have qp := hP5.out.lt
        go_wp2_with fail
        clear c0 c1 c2 c3 c4 d0 d1 d2 q0 qp
        have hc := touches_calls s sn st R nr cr none 0 0 false p.key ByteArray.empty [] none 0 0 [] w5 (Sl.nil _ _ _) (by omega)
        rw [show touches [] ⟨false, p.key, ByteArray.empty, []⟩ = false from rfl] at hc
        refine hc.mono ?_
        clear hc
        rintro e w6 ⟨rfl, hb4⟩
        have hW6 := Lib.hid (hW5.out.trans (hb4.mono hW5.out.size))
        have hB6' := Lib.hid (hB5'.out.trans (hb4.mono hB5'.out.size))
        have HB7 := Lib.hid (HB6.out.below hb4 HB6.out.lt)
        have hP6 := Lib.hid (hP5.out.below hb4 hP5.out.lt)
        clear hb4 hW5 hB5' HB6 HI6 hP5
        obtain ⟨c0, c1, c2, c3, c4⟩ := rec_cells _ _ _ _ _ _ _ _ _ HB7.out
        obtain ⟨d0, d1, d2⟩ := hP6.out.three
        have q0 := HB7.out.lt
        have qp := hP6.out.lt
        cases h1 : bytesLess p.key.toList f.toList
        · cases h2 : bytesLess p.key.toList t.toList
          · go_wp2_with fail
            go_roundw
            case rel => exact ⟨k + 1, by omega, by go_num, hB6'.out⟩
            case measure => simp [intOf]; omega
          · go_wp2_with fail
            have hc := touches_calls s sn st R nr cr (some ⟨b, off, none⟩) nw cw true f t [] none 0 0 ws w6 (HWW.out.below hW6.out) hwn
            rw [hm3.out h1 h2] at hc
            refine hc.mono ?_
            clear hc
            rintro e w7 ⟨rfl, hb4⟩
            have hB7' := Lib.hid (hB6'.out.trans (hb4.mono hB6'.out.size))
            clear hb4
            go_wp2_with fail
            go_roundw
            case rel => exact ⟨k + 1, by omega, by go_num, hB7'.out⟩
            case measure => simp [intOf]; omega
        · go_wp2_with fail
          go_roundw
          case rel => exact ⟨k + 1, by omega, by go_num, hB6'.out⟩
          case measure => simp [intOf]; omega
      · have HB3 := Lib.hid (HB2.out.below hb HB2.out.lt)
        have HI3 := Lib.hid (HI2.out.below hb HI2.out.lt)
        clear hb
        obtain ⟨c0, c1, c2, c3, c4⟩ := rec_cells _ _ _ _ _ _ _ _ _ HB3.out
        obtain ⟨d0, d1, d2, d3, d4⟩ := rec_cells _ _ _ _ _ _ _ _ _ HI3.out
        have q0 := HB3.out.lt
        have q1 := HI3.out.lt
        have hSM1 : Hid (Small [(⟨s, sn, st, rs, ws⟩ : Rec)]) := fun o h => by
          rw [List.mem_singleton.1 h]; obtain ⟨_, _, h3, h4⟩ := HRO.out
          simp at h3 h4
          exact ⟨by simp; omega, by simp; omega⟩
        have hSM2 : Hid (Small [(⟨s, sn, st, rs, []⟩ : Rec)]) := fun o h => by
          rw [List.mem_singleton.1 h]; obtain ⟨_, _, h3, h4⟩ := HRO.out
          simp at h3 h4
          exact ⟨by simp, by simp; omega⟩
        have hL1 : Hid (∀ X g, Below w.heap.size w X → Blk X g #[.int .i64 s, .int .i64 sn, .bool st, .slice R nr cr, .slice W nw cw] 25 → Sl tRec X (fun _ => True) (.slice (some ⟨g, 0, none⟩) 1 1) [⟨s, sn, st, rs, ws⟩]) := fun X g hb hg =>
          (one_rec' (ok := fun _ => True) (x := ⟨s, sn, st, rs, ws⟩) _ _ _ _ _ _ _ _ _ hg (rec_mk (x := ⟨s, sn, st, rs, ws⟩) (HWR.out.below hb) (HWW.out.below hb))).mono fun _ _ => trivial
        have hL2 : Hid (∀ X g, Below w.heap.size w X → Blk X g #[.int .i64 s, .int .i64 sn, .bool st, .slice R nr cr, .slice none 0 0] 25 → Sl tRec X (fun _ => True) (.slice (some ⟨g, 0, none⟩) 1 1) [⟨s, sn, st, rs, []⟩]) := fun X g hb hg =>
          (one_rec' (ok := fun _ => True) (x := ⟨s, sn, st, rs, []⟩) _ _ _ _ _ _ _ _ _ hg (rec_mk (x := ⟨s, sn, st, rs, []⟩) (HWR.out.below hb) (Sl.nil _ _ _))).mono fun _ _ => trivial
        have hW4 : Hid (Below w.heap.size w (wr.alloc (.cells #[.int .i64 s, .int .i64 sn, .bool st, .slice R nr cr, .slice W nw cw] 25))) := HBW.out.alloc HBW.out.size _
        have HB4 : Hid (Blk (wr.alloc (.cells #[.int .i64 s, .int .i64 sn, .bool st, .slice R nr cr, .slice W nw cw] 25)) w.heap.size #[.int .i64 s, .int .i64 sn, .bool st, .slice R nr cr, .slice W nw cw] 25) := HB3.out.alloc _
        have HI4 : Hid (Blk (wr.alloc (.cells #[.int .i64 s, .int .i64 sn, .bool st, .slice R nr cr, .slice W nw cw] 25)) g7 #[.int .i64 s, .int .i64 sn, .bool st, .slice R nr cr, .slice none 0 0] 25) := HI3.out.alloc _
        have HN4 : Hid (Blk (wr.alloc (.cells #[.int .i64 s, .int .i64 sn, .bool st, .slice R nr cr, .slice W nw cw] 25)) wr.heap.size #[.int .i64 s, .int .i64 sn, .bool st, .slice R nr cr, .slice W nw cw] 25) := Blk.new _ _ _
        go_wp2_with fail
        clear c0 c1 c2 c3 c4 d0 d1 d2 d3 d4 q0 q1 HB3 HI3 HBW
        have hc := clash_calls s sn st R nr cr none 0 0 [] [⟨s, sn, st, rs, ws⟩] (some ⟨wr.heap.size, 0, none⟩) 1 1 _ (Sl.nil _ _ _) (hL1.out _ _ hW4.out HN4.out) hSM1.out
        rw [clash_idle] at hc
        refine hc.mono ?_
        clear hc
        rintro e w5 ⟨rfl, hb4⟩
        have hW5 := Lib.hid (hW4.out.trans (hb4.mono hW4.out.size))
        have HB5 := Lib.hid (HB4.out.below hb4 HB4.out.lt)
        have HI5 := Lib.hid (HI4.out.below hb4 HI4.out.lt)
        clear hb4 hW4 HB4 HI4 HN4
        obtain ⟨c0, c1, c2, c3, c4⟩ := rec_cells _ _ _ _ _ _ _ _ _ HB5.out
        obtain ⟨d0, d1, d2, d3, d4⟩ := rec_cells _ _ _ _ _ _ _ _ _ HI5.out
        have q0 := HB5.out.lt
        have q1 := HI5.out.lt
        have hW6 : Hid (Below w.heap.size w (w5.alloc (.cells #[.int .i64 s, .int .i64 sn, .bool st, .slice R nr cr, .slice none 0 0] 25))) := hW5.out.alloc hW5.out.size _
        have HB6 : Hid (Blk (w5.alloc (.cells #[.int .i64 s, .int .i64 sn, .bool st, .slice R nr cr, .slice none 0 0] 25)) w.heap.size #[.int .i64 s, .int .i64 sn, .bool st, .slice R nr cr, .slice W nw cw] 25) := HB5.out.alloc _
        have HI6 : Hid (Blk (w5.alloc (.cells #[.int .i64 s, .int .i64 sn, .bool st, .slice R nr cr, .slice none 0 0] 25)) g7 #[.int .i64 s, .int .i64 sn, .bool st, .slice R nr cr, .slice none 0 0] 25) := HI5.out.alloc _
        have HN6 : Hid (Blk (w5.alloc (.cells #[.int .i64 s, .int .i64 sn, .bool st, .slice R nr cr, .slice none 0 0] 25)) w5.heap.size #[.int .i64 s, .int .i64 sn, .bool st, .slice R nr cr, .slice none 0 0] 25) := Blk.new _ _ _
        go_wp2_with fail
        clear c0 c1 c2 c3 c4 d0 d1 d2 d3 d4 q0 q1 HB5 HI5 hW5
        have hc := clash_calls s sn st R nr cr W nw cw ws [⟨s, sn, st, rs, []⟩] (some ⟨w5.heap.size, 0, none⟩) 1 1 _ (HWW.out.below hW6.out) (hL2.out _ _ hW6.out HN6.out) hSM2.out
        rw [clash_idle2 _ _ rfl] at hc
        refine hc.mono ?_
        clear hc
        rintro e w7 ⟨rfl, hb4⟩
        have hW7 := Lib.hid (hW6.out.trans (hb4.mono hW6.out.size))
        have HB7 := Lib.hid (HB6.out.below hb4 HB6.out.lt)
        have HI7 := Lib.hid (HI6.out.below hb4 HI6.out.lt)
        clear hb4 hW6 HB6 HI6 HN6
        obtain ⟨c0, c1, c2, c3, c4⟩ := rec_cells _ _ _ _ _ _ _ _ _ HB7.out
        obtain ⟨d0, d1, d2, d3, d4⟩ := rec_cells _ _ _ _ _ _ _ _ _ HI7.out
        have q0 := HB7.out.lt
        have q1 := HI7.out.lt
        have hW8 : Hid (Below w.heap.size w (w7.alloc (.cells #[.int .i64 s, .int .i64 sn, .bool st, .slice R nr cr, .slice none 0 0] 25))) := hW7.out.alloc hW7.out.size _
        have HN8 : Hid (Blk (w7.alloc (.cells #[.int .i64 s, .int .i64 sn, .bool st, .slice R nr cr, .slice none 0 0] 25)) w7.heap.size #[.int .i64 s, .int .i64 sn, .bool st, .slice R nr cr, .slice none 0 0] 25) := Blk.new _ _ _
        go_wp2_with fail
        clear c0 c1 c2 c3 c4 d0 d1 d2 d3 d4 q0 q1 HB7 HI7 hW7
        have hc := stale_calls s sn st R nr cr W nw cw rs [⟨s, sn, st, rs, []⟩] (some ⟨w7.heap.size, 0, none⟩) 1 1 _ (HWR.out.below hW8.out) (hL2.out _ _ hW8.out HN8.out) hSM2.out
        rw [stale_idle _ _ rfl] at hc
        refine hc.mono ?_
        clear hc
        rintro e w9 ⟨rfl, hb4⟩
        have hW9 := Lib.hid (hW8.out.trans (hb4.mono hW8.out.size))
        clear hb4 hW8 HN8
        go_wp2_with fail
        refine (lives_calls _).mono ?_
        rintro e w10 ⟨rfl, hb4⟩
        go_wp2
        go_ret
        exact ⟨rfl, hW9.out.trans (hb4.mono hW9.out.size)⟩
  · cases b
    · go_wp2_with fail
      refine (lives_calls _).mono ?_
      rintro e w5 ⟨rfl, hb5⟩
      go_wp2
      go_ret
      exact ⟨rfl, HW1.out.trans (hb5.mono HW1.out.size)⟩
    · have hno : 300 < f.size + t.size := by
        rcases Nat.lt_or_ge 300 (f.size + t.size) with h | h
        · exact h
        · exact absurd ⟨rfl, h⟩ hgo
      clear hgo
      go_wp2_with fail
      refine (lives_calls _).mono ?_
      rintro e w5 ⟨rfl, hb5⟩
      go_wp2
      go_ret
      exact ⟨rfl, HW1.out.trans (hb5.mono HW1.out.size)⟩
end Go.Proofs.Ytlbcckdbpgofmaa
