import Derived.Test.YtlbcckdbpgofmaaW12
import Derived.StillTailTactics
/-! CertifyWeaker. -/
namespace Go.Proofs.Ytlbcckdbpgofmaa
open Go.RowKit Go.Op

/-- Two records in a block. -/
theorem two_recs {w : World} {ok : Nat → Prop} {g : Nat} {x y : Rec} (s sn : Int) (st : Bool) (R : Option Addr) (nr cr : Nat) (W : Option Addr) (nw cw : Nat) (s2 sn2 : Int) (st2 : Bool) (R2 : Option Addr) (nr2 cr2 : Nat) (W2 : Option Addr) (nw2 cw2 : Nat) (h : Blk w g #[.int .i64 s, .int .i64 sn, .bool st, .slice R nr cr, .slice W nw cw, .int .i64 s2, .int .i64 sn2, .bool st2, .slice R2 nr2 cr2, .slice W2 nw2 cw2] 25)
    (hx : tRec.K w ok x [.int .i64 s, .int .i64 sn, .bool st, .slice R nr cr, .slice W nw cw]) (hy : tRec.K w ok y [.int .i64 s2, .int .i64 sn2, .bool st2, .slice R2 nr2 cr2, .slice W2 nw2 cw2]) :
    Sl tRec w (fun b => ok b ∨ b = g) (.slice (some ⟨g, 0, none⟩) 2 2) [x, y] :=
  ⟨_, 2, [.int .i64 s, .int .i64 sn, .bool st, .slice R nr cr, .slice W nw cw] ++ [.int .i64 s2, .int .i64 sn2, .bool st2, .slice R2 nr2 cr2, .slice W2 nw2 cw2], rfl, Nat.le_refl _, ⟨by omega, fun h => by cases h⟩,
    ((Cells.one hx).append (Cells.one hy)).mono fun b h => .inl h, .inr ⟨g, 0, rfl, .inr rfl, fun j u hj => by rw [h.cell (0 + j)]; simpa using hj⟩⟩
theorem one_rec' {w : World} {ok : Nat → Prop} {g : Nat} {x : Rec} (s sn : Int) (st : Bool) (R : Option Addr) (nr cr : Nat) (W : Option Addr) (nw cw : Nat) (h : Blk w g #[.int .i64 s, .int .i64 sn, .bool st, .slice R nr cr, .slice W nw cw] 25)
    (hx : tRec.K w ok x [.int .i64 s, .int .i64 sn, .bool st, .slice R nr cr, .slice W nw cw]) :
    Sl tRec w (fun b => ok b ∨ b = g) (.slice (some ⟨g, 0, none⟩) 1 1) [x] :=
  ⟨_, 1, [.int .i64 s, .int .i64 sn, .bool st, .slice R nr cr, .slice W nw cw], rfl, Nat.le_refl _, ⟨by omega, fun h => by cases h⟩,
    (Cells.one hx).mono fun b h => .inl h, .inr ⟨g, 0, rfl, .inr rfl, fun j u hj => by rw [h.cell (0 + j)]; simpa using hj⟩⟩


/-- What may strictly may otherwise; with fewer writes and reads it may still. -/
theorem mayNot_weaker (s sn : Int) (rs : List Rd) (ws : List Pair) (l : List Rec) (j k : Nat) (h : mayNot ⟨s, sn, true, rs, ws⟩ l = false) :
    mayNot ⟨s, sn, false, rs, ws⟩ l = false ∧ mayNot ⟨s, sn, true, rs.take j, ws.take k⟩ l = false := by
  rw [mayNot_any] at h ⊢
  rw [mayNot_any]
  simp only [Bool.true_and, Bool.false_and, Bool.or_false, Bool.or_eq_false_iff, List.any_eq_false] at h ⊢
  exact ⟨h.1, fun o ho hx => h.1 o ho (by
      rw [List.any_eq_true] at hx ⊢
      obtain ⟨p, hp, e⟩ := hx
      exact ⟨p, List.mem_of_mem_take hp, e⟩), fun o ho hx => h.2 o ho (by
      rw [List.any_eq_true] at hx ⊢
      obtain ⟨p, hp, e⟩ := hx
      exact ⟨p, List.mem_of_mem_take hp, e⟩)⟩
/-- Two that clash do so either way round. -/
theorem clash_sym (ws ws2 : List Pair) : (ws.any fun p => wrote ws2 p.key) = (ws2.any fun p => wrote ws p.key) := by
  rw [Bool.eq_iff_iff]
  simp only [wrote, List.any_eq_true, beq_iff_eq]
  constructor
  · rintro ⟨p, hp, q, hq, e⟩; exact ⟨q, hq, p, hp, e.symm⟩
  · rintro ⟨p, hp, q, hq, e⟩; exact ⟨q, hq, p, hp, e.symm⟩
theorem clash_one (ws : List Pair) (o : Rec) : clash ws [o] = if (ws.any fun p => wrote o.writes p.key) then 0 else -1 := by
  unfold clash idx
  cases h : (ws.any fun p => wrote o.writes p.key) <;> simp [h]
theorem short_take {ws : List Pair} (h : Short ws) (k : Nat) : Short (ws.take k) := fun p hp => h p (List.mem_of_mem_take hp)

/-- What stays while two are asked. -/
def WS (s sn : Int) (st : Bool) (R : Option Addr) (nr cr : Nat) (W : Option Addr) (nw cw : Nat) (s2 sn2 : Int) (st2 : Bool) (R2 : Option Addr) (nr2 cr2 : Nat) (W2 : Option Addr) (nw2 cw2 : Nat) (w : World) (g : Nat) (X : World) : Prop :=
  X.cell? ⟨w.heap.size, 0, none⟩ = some (.int .i64 s) ∧ X.cell? ⟨w.heap.size, 1, none⟩ = some (.int .i64 sn) ∧ X.cell? ⟨w.heap.size, 2, none⟩ = some (.bool st) ∧ X.cell? ⟨w.heap.size, 3, none⟩ = some (.slice R nr cr) ∧ X.cell? ⟨w.heap.size, 4, none⟩ = some (.slice W nw cw) ∧ X.cell? ⟨w.heap.size + 1, 0, none⟩ = some (.int .i64 s2) ∧ X.cell? ⟨w.heap.size + 1, 1, none⟩ = some (.int .i64 sn2) ∧ X.cell? ⟨w.heap.size + 1, 2, none⟩ = some (.bool st2) ∧ X.cell? ⟨w.heap.size + 1, 3, none⟩ = some (.slice R2 nr2 cr2) ∧ X.cell? ⟨w.heap.size + 1, 4, none⟩ = some (.slice W2 nw2 cw2) ∧ Hid (Blk X g #[.int .i64 s2, .int .i64 sn2, .bool st2, .slice R2 nr2 cr2, .slice W2 nw2 cw2] 25) ∧ Hid (Below w.heap.size w X) ∧ Hid (w.heap.size + 2 ≤ X.heap.size)
section
variable {s sn : Int} {st : Bool} {R : Option Addr} {nr cr : Nat} {W : Option Addr} {nw cw : Nat} {s2 sn2 : Int} {st2 : Bool} {R2 : Option Addr} {nr2 cr2 : Nat} {W2 : Option Addr} {nw2 cw2 : Nat} {w : World} {g : Nat} {X X' : World}
theorem WS.below (h : WS s sn st R nr cr W nw cw s2 sn2 st2 R2 nr2 cr2 W2 nw2 cw2 w g X) (hb : Below X.heap.size X X') : WS s sn st R nr cr W nw cw s2 sn2 st2 R2 nr2 cr2 W2 nw2 cw2 w g X' := by
  obtain ⟨a0, a1, a2, a3, a4, b0, b1, b2, b3, b4, hR, hB, hz⟩ := h
  have hz' := hz.out
  obtain ⟨hc, -⟩ := bcell hb
  refine ⟨?_, ?_, ?_, ?_, ?_, ?_, ?_, ?_, ?_, ?_, hR.out.below hb hR.out.lt, hB.out.trans (hb.mono hB.out.size), Nat.le_trans hz.out hb.size⟩ <;> (rw [hc _ _ (by omega)]; assumption)
theorem WS.alloc (h : WS s sn st R nr cr W nw cw s2 sn2 st2 R2 nr2 cr2 W2 nw2 cw2 w g X) (o : Obj) : WS s sn st R nr cr W nw cw s2 sn2 st2 R2 nr2 cr2 W2 nw2 cw2 w g (X.alloc o) := h.below ((Below.refl _ _).alloc (Nat.le_refl _) o)
theorem WS.drew (h : WS s sn st R nr cr W nw cw s2 sn2 st2 R2 nr2 cr2 W2 nw2 cw2 w g X) : WS s sn st R nr cr W nw cw s2 sn2 st2 R2 nr2 cr2 W2 nw2 cw2 w g X.drew := h.below (Below.refl _ _).drew
theorem WS.blk (h : WS s sn st R nr cr W nw cw s2 sn2 st2 R2 nr2 cr2 W2 nw2 cw2 w g X) : Blk X g #[.int .i64 s2, .int .i64 sn2, .bool st2, .slice R2 nr2 cr2, .slice W2 nw2 cw2] 25 := h.2.2.2.2.2.2.2.2.2.2.1.out
theorem WS.after (h : WS s sn st R nr cr W nw cw s2 sn2 st2 R2 nr2 cr2 W2 nw2 cw2 w g X) : Below w.heap.size w X := h.2.2.2.2.2.2.2.2.2.2.2.1.out
end

set_option maxHeartbeats 16000000 in
theorem weaker_calls (s sn : Int) (st : Bool) (R : Option Addr) (nr cr : Nat) (W : Option Addr) (nw cw : Nat) (s2 sn2 : Int) (st2 : Bool) (R2 : Option Addr) (nr2 cr2 : Nat) (W2 : Option Addr) (nw2 cw2 : Nat) (rs rs2 : List Rd) (ws ws2 : List Pair) (u : Int) (w : World)
    (hr : Sl tRead w (fun _ => True) (.slice R nr cr) rs) (hw : Sl tPair w (fun _ => True) (.slice W nw cw) ws) (hr2 : Sl tRead w (fun _ => True) (.slice R2 nr2 cr2) rs2) (hw2 : Sl tPair w (fun _ => True) (.slice W2 nw2 cw2) ws2)
    (hro : RecOk ⟨s, sn, st, rs, ws⟩) (ho : RecOk ⟨s2, sn2, st2, rs2, ws2⟩) (hu0 : 0 ≤ u) :
    Calls Try.prog 5 #[.agg #[.int .i64 s, .int .i64 sn, .bool st, .slice R nr cr, .slice W nw cw], .agg #[.int .i64 s2, .int .i64 sn2, .bool st2, .slice R2 nr2 cr2, .slice W2 nw2 cw2], .int .u64 u] w fun e w' => e = .returned (.bool true) ∧ Below w.heap.size w w' := by
  have HWR := Lib.hid hr
  have HWW := Lib.hid hw
  have HWR2 := Lib.hid hr2
  have HWW2 := Lib.hid hw2
  have HRO := Lib.hid hro
  have HO := Lib.hid ho
  have hz : (w.alloc (.cells #[.int .i64 s, .int .i64 sn, .bool st, .slice R nr cr, .slice W nw cw] 25)).heap.size = w.heap.size + 1 := by simp
  have HB0 := Lib.hid ((Blk.new w #[.int .i64 s, .int .i64 sn, .bool st, .slice R nr cr, .slice W nw cw] 25).alloc (.cells #[.int .i64 s2, .int .i64 sn2, .bool st2, .slice R2 nr2 cr2, .slice W2 nw2 cw2] 25))
  have HB1 : Hid (Blk ((w.alloc (.cells #[.int .i64 s, .int .i64 sn, .bool st, .slice R nr cr, .slice W nw cw] 25)).alloc (.cells #[.int .i64 s2, .int .i64 sn2, .bool st2, .slice R2 nr2 cr2, .slice W2 nw2 cw2] 25)) (w.heap.size + 1) #[.int .i64 s2, .int .i64 sn2, .bool st2, .slice R2 nr2 cr2, .slice W2 nw2 cw2] 25) := blk_new (by simp)
  have HY : Hid (Below w.heap.size w ((w.alloc (.cells #[.int .i64 s, .int .i64 sn, .bool st, .slice R nr cr, .slice W nw cw] 25)).alloc (.cells #[.int .i64 s2, .int .i64 sn2, .bool st2, .slice R2 nr2 cr2, .slice W2 nw2 cw2] 25))) := ((Below.refl _ _).alloc (Nat.le_refl _) _).alloc (by simp) _
  have HZ : Hid (((w.alloc (.cells #[.int .i64 s, .int .i64 sn, .bool st, .slice R nr cr, .slice W nw cw] 25)).alloc (.cells #[.int .i64 s2, .int .i64 sn2, .bool st2, .slice R2 nr2 cr2, .slice W2 nw2 cw2] 25)).heap.size = w.heap.size + 2) := by show _ = _; simp
  clear hr hw hr2 hw2 hro ho hz
  obtain ⟨c0, c1, c2, c3, c4⟩ := rec_cells _ _ _ _ _ _ _ _ _ HB0.out
  obtain ⟨d0, d1, d2, d3, d4⟩ := rec_cells _ _ _ _ _ _ _ _ _ HB1.out
  have q0 := HB0.out.lt
  have q1 := HB1.out.lt
  go_enter Try.func5, Try.ntmps5
  go_wp2_with fail
  have HS2 : Hid (Sl tRec (((w.alloc (.cells #[.int .i64 s, .int .i64 sn, .bool st, .slice R nr cr, .slice W nw cw] 25)).alloc (.cells #[.int .i64 s2, .int .i64 sn2, .bool st2, .slice R2 nr2 cr2, .slice W2 nw2 cw2] 25)).alloc (.cells #[.int .i64 s, .int .i64 sn, .bool st, .slice R nr cr, .slice W nw cw, .int .i64 s2, .int .i64 sn2, .bool st2, .slice R2 nr2 cr2, .slice W2 nw2 cw2] 25)) (fun _ => True) (.slice (some ⟨w.heap.size + 1 + 1, 0, none⟩) 2 2) [⟨s, sn, st, rs, ws⟩, ⟨s2, sn2, st2, rs2, ws2⟩]) := by
    have hb2 : Below w.heap.size w (((w.alloc (.cells #[.int .i64 s, .int .i64 sn, .bool st, .slice R nr cr, .slice W nw cw] 25)).alloc (.cells #[.int .i64 s2, .int .i64 sn2, .bool st2, .slice R2 nr2 cr2, .slice W2 nw2 cw2] 25)).alloc (.cells #[.int .i64 s, .int .i64 sn, .bool st, .slice R nr cr, .slice W nw cw, .int .i64 s2, .int .i64 sn2, .bool st2, .slice R2 nr2 cr2, .slice W2 nw2 cw2] 25)) := HY.out.alloc HY.out.size _
    exact (two_recs (ok := fun _ => True) _ _ _ _ _ _ _ _ _ _ _ _ _ _ _ _ _ _ (blk_new (by rw [HZ.out])) (rec_mk (x := ⟨s, sn, st, rs, ws⟩) (HWR.out.below hb2) (HWW.out.below hb2)) (rec_mk (x := ⟨s2, sn2, st2, rs2, ws2⟩) (HWR2.out.below hb2) (HWW2.out.below hb2))).mono fun _ _ => trivial
  refine (lights_calls [⟨s, sn, st, rs, ws⟩, ⟨s2, sn2, st2, rs2, ws2⟩] _ 2 2 _ HS2.out (fun x hx => by
    rcases List.mem_cons.1 hx with rfl | hx
    · exact HRO.out
    · rw [List.mem_singleton.1 hx]; exact HO.out)).mono ?_
  rintro e w1 ⟨b, rfl, hb1⟩
  have hW1 := HY.out.trans (((Below.refl _ _).alloc (Nat.le_refl _) _).trans (hb1.mono (by simp)) |>.mono HY.out.size)
  have HB0' := Lib.hid ((HB0.out.alloc (.cells #[.int .i64 s, .int .i64 sn, .bool st, .slice R nr cr, .slice W nw cw, .int .i64 s2, .int .i64 sn2, .bool st2, .slice R2 nr2 cr2, .slice W2 nw2 cw2] 25)).below hb1 (HB0.out.alloc _).lt)
  have HB1' := Lib.hid ((HB1.out.alloc (.cells #[.int .i64 s, .int .i64 sn, .bool st, .slice R nr cr, .slice W nw cw, .int .i64 s2, .int .i64 sn2, .bool st2, .slice R2 nr2 cr2, .slice W2 nw2 cw2] 25)).below hb1 (HB1.out.alloc _).lt)
  have HW1 := Lib.hid hW1
  clear hb1 hW1 HS2 HB0 HB1 HY HZ c0 c1 c2 c3 c4 d0 d1 d2 d3 d4 q0 q1
  obtain ⟨c0, c1, c2, c3, c4⟩ := rec_cells _ _ _ _ _ _ _ _ _ HB0'.out
  obtain ⟨d0, d1, d2, d3, d4⟩ := rec_cells _ _ _ _ _ _ _ _ _ HB1'.out
  have q0 := HB0'.out.lt
  have q1 := HB1'.out.lt
  cases b
  · go_wp2_with fail
    refine (lives_calls _).mono ?_
    rintro e w5 ⟨rfl, hb5⟩
    go_wp2
    go_ret
    exact ⟨rfl, HW1.out.trans (hb5.mono HW1.out.size)⟩
  · go_wp2_with fail
    go_region
    all_goals
      have hW2 : Hid (Below w.heap.size w ((w1.alloc (.cells #[.int .i64 s, .int .i64 sn, .bool st, .slice R nr cr, .slice W nw cw] 25)).alloc (.cells #[.int .i64 s, .int .i64 sn, .bool st, .slice R nr cr, .slice W nw cw] 25)).drew) := (HW1.out.alloc HW1.out.size _ |>.alloc (by have := HW1.out.size; simp; omega) _).drew
      have hX0 : Hid (Blk ((w1.alloc (.cells #[.int .i64 s, .int .i64 sn, .bool st, .slice R nr cr, .slice W nw cw] 25)).alloc (.cells #[.int .i64 s, .int .i64 sn, .bool st, .slice R nr cr, .slice W nw cw] 25)).drew w1.heap.size #[.int .i64 s, .int .i64 sn, .bool st, .slice R nr cr, .slice W nw cw] 25) := blk_drew ((Blk.new _ _ _).alloc _)
      have hX1 : Hid (Blk ((w1.alloc (.cells #[.int .i64 s, .int .i64 sn, .bool st, .slice R nr cr, .slice W nw cw] 25)).alloc (.cells #[.int .i64 s, .int .i64 sn, .bool st, .slice R nr cr, .slice W nw cw] 25)).drew (w1.heap.size + 1) #[.int .i64 s, .int .i64 sn, .bool st, .slice R nr cr, .slice W nw cw] 25) := blk_drew (blk_new (by simp))
      have hX3 : Hid (Blk ((w1.alloc (.cells #[.int .i64 s, .int .i64 sn, .bool st, .slice R nr cr, .slice W nw cw] 25)).alloc (.cells #[.int .i64 s, .int .i64 sn, .bool st, .slice R nr cr, .slice W nw cw] 25)).drew w.heap.size #[.int .i64 s, .int .i64 sn, .bool st, .slice R nr cr, .slice W nw cw] 25) := blk_drew ((HB0'.out.alloc _).alloc _)
      have hX4 : Hid (Blk ((w1.alloc (.cells #[.int .i64 s, .int .i64 sn, .bool st, .slice R nr cr, .slice W nw cw] 25)).alloc (.cells #[.int .i64 s, .int .i64 sn, .bool st, .slice R nr cr, .slice W nw cw] 25)).drew (w.heap.size + 1) #[.int .i64 s2, .int .i64 sn2, .bool st2, .slice R2 nr2 cr2, .slice W2 nw2 cw2] 25) := blk_drew ((HB1'.out.alloc _).alloc _)
      generalize ((w1.alloc (.cells #[.int .i64 s, .int .i64 sn, .bool st, .slice R nr cr, .slice W nw cw] 25)).alloc (.cells #[.int .i64 s, .int .i64 sn, .bool st, .slice R nr cr, .slice W nw cw] 25)).drew = w2 at *
      clear c0 c1 c2 c3 c4 d0 d1 d2 d3 d4
    have P7 := hX0
    have P8 := hX1
    have hne : w1.heap.size ≠ w1.heap.size + 1 := by omega
    have n7 : w.heap.size + 2 ≤ w1.heap.size := by omega
    have n8 : w.heap.size + 2 ≤ w1.heap.size + 1 := by omega
    clear hX0 hX1 HW1 HB0' HB1' q0 q1
    generalize w1.heap.size + 1 = g8 at *
    generalize w1.heap.size = g7 at *
    rotate_left
    have P7 := hX1
    have P8 := hX0
    have hne : w1.heap.size + 1 ≠ w1.heap.size := by omega
    have n7 : w.heap.size + 2 ≤ w1.heap.size + 1 := by omega
    have n8 : w.heap.size + 2 ≤ w1.heap.size := by omega
    clear hX0 hX1 HW1 HB0' HB1' q0 q1
    generalize w1.heap.size + 1 = g7 at *
    generalize w1.heap.size = g8 at *
    all_goals
      obtain ⟨c0, c1, c2, c3, c4⟩ := rec_cells _ _ _ _ _ _ _ _ _ P7.out
      obtain ⟨d0, d1, d2, d3, d4⟩ := rec_cells _ _ _ _ _ _ _ _ _ P8.out
      have f7 := P7.out.frozen 2
      have f8 := P8.out.frozen 2
      have q7 := P7.out.lt
      have q8 := P8.out.lt
      have hen := hne.symm
      go_wp2_with fail
      have hW3 : Hid (Below w.heap.size w (((w2.setCell ⟨g7, 2, none⟩ (.bool true)).setCell ⟨g8, 2, none⟩ (.bool false)).alloc (.cells #[.int .i64 s, .int .i64 sn, .bool true, .slice R nr cr, .slice W nw cw] 25))) := ((hW2.out.setCell (by show _ ≤ g7; omega) _).setCell (by show _ ≤ g8; omega) _).alloc (by have := hW2.out.size; simpa using this) _
      have Q7 : Hid (Blk (((w2.setCell ⟨g7, 2, none⟩ (.bool true)).setCell ⟨g8, 2, none⟩ (.bool false)).alloc (.cells #[.int .i64 s, .int .i64 sn, .bool true, .slice R nr cr, .slice W nw cw] 25)) g7 #[.int .i64 s, .int .i64 sn, .bool true, .slice R nr cr, .slice W nw cw] 25) := ((P7.out.set 2 _).far hne _).alloc _
      have Q8 : Hid (Blk (((w2.setCell ⟨g7, 2, none⟩ (.bool true)).setCell ⟨g8, 2, none⟩ (.bool false)).alloc (.cells #[.int .i64 s, .int .i64 sn, .bool true, .slice R nr cr, .slice W nw cw] 25)) g8 #[.int .i64 s, .int .i64 sn, .bool false, .slice R nr cr, .slice W nw cw] 25) := ((P8.out.far (Ne.symm hne) _).set 2 _).alloc _
      have Q9 : Hid (Blk (((w2.setCell ⟨g7, 2, none⟩ (.bool true)).setCell ⟨g8, 2, none⟩ (.bool false)).alloc (.cells #[.int .i64 s, .int .i64 sn, .bool true, .slice R nr cr, .slice W nw cw] 25)) w2.heap.size #[.int .i64 s, .int .i64 sn, .bool true, .slice R nr cr, .slice W nw cw] 25) := blk_new (by simp)
      have Q3 : Hid (Blk (((w2.setCell ⟨g7, 2, none⟩ (.bool true)).setCell ⟨g8, 2, none⟩ (.bool false)).alloc (.cells #[.int .i64 s, .int .i64 sn, .bool true, .slice R nr cr, .slice W nw cw] 25)) w.heap.size #[.int .i64 s, .int .i64 sn, .bool st, .slice R nr cr, .slice W nw cw] 25) := ((hX3.out.far (by show _ ≠ g7; omega) _).far (by show _ ≠ g8; omega) _).alloc _
      have Q4 : Hid (Blk (((w2.setCell ⟨g7, 2, none⟩ (.bool true)).setCell ⟨g8, 2, none⟩ (.bool false)).alloc (.cells #[.int .i64 s, .int .i64 sn, .bool true, .slice R nr cr, .slice W nw cw] 25)) (w.heap.size + 1) #[.int .i64 s2, .int .i64 sn2, .bool st2, .slice R2 nr2 cr2, .slice W2 nw2 cw2] 25) := ((hX4.out.far (by show _ ≠ g7; omega) _).far (by show _ ≠ g8; omega) _).alloc _
      have n9 : w.heap.size + 2 ≤ w2.heap.size := by omega
      have m7 : w2.heap.size ≠ g7 := by omega
      have m8 : w2.heap.size ≠ g8 := by omega
      generalize (((w2.setCell ⟨g7, 2, none⟩ (.bool true)).setCell ⟨g8, 2, none⟩ (.bool false)).alloc (.cells #[.int .i64 s, .int .i64 sn, .bool true, .slice R nr cr, .slice W nw cw] 25)) = w3 at *
      clear c0 c1 c2 c3 c4 d0 d1 d2 d3 d4 f7 f8 P7 P8 hX3 hX4 hW2 q7 q8
      generalize w2.heap.size = g9 at *
      obtain ⟨c0, c1, c2, c3, c4⟩ := rec_cells _ _ _ _ _ _ _ _ _ Q7.out
      obtain ⟨d0, d1, d2, d3, d4⟩ := rec_cells _ _ _ _ _ _ _ _ _ Q9.out
      have q7 := Q7.out.lt
      have q9 := Q9.out.lt
      have f9 := Q9.out.frozen 4
      have m7' := m7.symm
      have m8' := m8.symm
      have hwn : nw ≤ 4611686018427387904 := by
        have h1 := HWW.out.length.1
        have h2 := HRO.out.2.2.1
        simp at h2; omega
      have e1 : IntKind.i64.wrap ((nw : Int) + 1) = (nw : Int) + 1 := by simp [IntKind.wrap, IntKind.bits, IntKind.signed]; omega
      have e2 : IntKind.u64.wrap ((nw : Int) + 1) = (nw : Int) + 1 := by simp [IntKind.wrap, IntKind.bits, IntKind.signed]; omega
      have e3 : ¬ (nw : Int) + 1 = 0 := by omega
      obtain ⟨k, hk, hkn⟩ : ∃ k : Nat, u.tmod ((nw : Int) + 1) = (k : Int) ∧ k ≤ nw := by
        rw [Int.tmod_eq_emod_of_nonneg hu0]
        exact ⟨(u % ((nw : Int) + 1)).toNat, by have := Int.emod_nonneg u (show (nw : Int) + 1 ≠ 0 by omega); omega, by have := Int.emod_lt_of_pos u (show 0 < (nw : Int) + 1 by omega); omega⟩
      have e4 : IntKind.i64.wrap (k : Int) = (k : Int) := by simp [IntKind.wrap, IntKind.bits, IntKind.signed]; omega
      have hhi : ∀ W' : World, (Instr.slice 23 (.slice W nw cw) none (some (.int .i64 (k : Int))) none).run Try.prog W' = .ok (.slice W k cw) W' := fun W' =>
        run_slice_hi (sz := 3) Try.underlying23 (by kernel_rfl) W (by have := HWW.out.length.2.1; omega) W'
      go_still_tail 11, (by kernel_rfl)
      have hW4 : Hid (Below w.heap.size w w3.drew) := hW3.out.drew
      have R7 : Hid (Blk w3.drew g7 #[.int .i64 s, .int .i64 sn, .bool true, .slice R nr cr, .slice W nw cw] 25) := blk_drew Q7.out
      have R8 : Hid (Blk w3.drew g8 #[.int .i64 s, .int .i64 sn, .bool false, .slice R nr cr, .slice W nw cw] 25) := blk_drew Q8.out
      have R9 : Hid (Blk w3.drew g9 #[.int .i64 s, .int .i64 sn, .bool true, .slice R nr cr, .slice W nw cw] 25) := blk_drew Q9.out
      have R3 : Hid (Blk w3.drew w.heap.size #[.int .i64 s, .int .i64 sn, .bool st, .slice R nr cr, .slice W nw cw] 25) := blk_drew Q3.out
      have R4 : Hid (Blk w3.drew (w.heap.size + 1) #[.int .i64 s2, .int .i64 sn2, .bool st2, .slice R2 nr2 cr2, .slice W2 nw2 cw2] 25) := blk_drew Q4.out
      clear c0 c1 c2 c3 c4 d0 d1 d2 d3 d4 q7 q9 f9 hW3 Q7 Q8 Q9 Q3 Q4 hhi e1 e2 e3 e4 hk
      generalize hw4 : w3.drew = w4 at *
      rw [show ({ heap := w3.heap, tape := w3.tape, drawn := w3.drawn + 1, os := w3.os, output := w3.output } : World) = w4 from hw4]
      clear hw4 w3
      obtain ⟨c0, c1, c2, c3, c4⟩ := rec_cells _ _ _ _ _ _ _ _ _ R7.out
      obtain ⟨d0, d1, d2, d3, d4⟩ := rec_cells _ _ _ _ _ _ _ _ _ R9.out
      have q7 := R7.out.lt
      have q9 := R9.out.lt
      have f9 := R9.out.frozen 4
      go_wp2_with fail
      have hW5 : Hid (Below w.heap.size w (w4.setCell ⟨g9, 4, none⟩ (.slice W k cw))) := hW4.out.setCell (by show _ ≤ g9; omega) _
      have Q7 : Hid (Blk (w4.setCell ⟨g9, 4, none⟩ (.slice W k cw)) g7 #[.int .i64 s, .int .i64 sn, .bool true, .slice R nr cr, .slice W nw cw] 25) := R7.out.far (by show _ ≠ g9; omega) _
      have Q8 : Hid (Blk (w4.setCell ⟨g9, 4, none⟩ (.slice W k cw)) g8 #[.int .i64 s, .int .i64 sn, .bool false, .slice R nr cr, .slice W nw cw] 25) := R8.out.far (by show _ ≠ g9; omega) _
      have Q9 : Hid (Blk (w4.setCell ⟨g9, 4, none⟩ (.slice W k cw)) g9 #[.int .i64 s, .int .i64 sn, .bool true, .slice R nr cr, .slice W k cw] 25) := R9.out.set 4 _
      have Q3 : Hid (Blk (w4.setCell ⟨g9, 4, none⟩ (.slice W k cw)) w.heap.size #[.int .i64 s, .int .i64 sn, .bool st, .slice R nr cr, .slice W nw cw] 25) := R3.out.far (by show _ ≠ g9; omega) _
      have Q4 : Hid (Blk (w4.setCell ⟨g9, 4, none⟩ (.slice W k cw)) (w.heap.size + 1) #[.int .i64 s2, .int .i64 sn2, .bool st2, .slice R2 nr2 cr2, .slice W2 nw2 cw2] 25) := R4.out.far (by show _ ≠ g9; omega) _
      clear c0 c1 c2 c3 c4 d0 d1 d2 d3 d4 q7 q9 f9 hW4 R7 R8 R9 R3 R4
      generalize w4.setCell ⟨g9, 4, none⟩ (.slice W k cw) = w5 at *
      clear w4
      obtain ⟨c0, c1, c2, c3, c4⟩ := rec_cells _ _ _ _ _ _ _ _ _ Q7.out
      obtain ⟨d0, d1, d2, d3, d4⟩ := rec_cells _ _ _ _ _ _ _ _ _ Q9.out
      have q7 := Q7.out.lt
      have q9 := Q9.out.lt
      have hrn : nr ≤ 4611686018427387904 := by
        have h1 := HWR.out.length.1
        have h2 := HRO.out.2.2.2
        simp at h2; omega
      have e1 : IntKind.i64.wrap ((nr : Int) + 1) = (nr : Int) + 1 := by simp [IntKind.wrap, IntKind.bits, IntKind.signed]; omega
      have e2 : IntKind.u64.wrap ((nr : Int) + 1) = (nr : Int) + 1 := by simp [IntKind.wrap, IntKind.bits, IntKind.signed]; omega
      have e3 : ¬ (nr : Int) + 1 = 0 := by omega
      obtain ⟨j, hj, hjn⟩ : ∃ j : Nat, u.tmod ((nr : Int) + 1) = (j : Int) ∧ j ≤ nr := by
        rw [Int.tmod_eq_emod_of_nonneg hu0]
        exact ⟨(u % ((nr : Int) + 1)).toNat, by have := Int.emod_nonneg u (show (nr : Int) + 1 ≠ 0 by omega); omega, by have := Int.emod_lt_of_pos u (show 0 < (nr : Int) + 1 by omega); omega⟩
      have e4 : IntKind.i64.wrap (j : Int) = (j : Int) := by simp [IntKind.wrap, IntKind.bits, IntKind.signed]; omega
      have hhi : ∀ W' : World, (Instr.slice 22 (.slice R nr cr) none (some (.int .i64 (j : Int))) none).run Try.prog W' = .ok (.slice R j cr) W' := fun W' =>
        run_slice_hi (sz := 4) Try.underlying22 (by kernel_rfl) R (by have := HWR.out.length.2.1; omega) W'
      go_still_tail 11, (by kernel_rfl)
      have hW6 : Hid (Below w.heap.size w w5.drew) := hW5.out.drew
      have R7 : Hid (Blk w5.drew g7 #[.int .i64 s, .int .i64 sn, .bool true, .slice R nr cr, .slice W nw cw] 25) := blk_drew Q7.out
      have R8 : Hid (Blk w5.drew g8 #[.int .i64 s, .int .i64 sn, .bool false, .slice R nr cr, .slice W nw cw] 25) := blk_drew Q8.out
      have R9 : Hid (Blk w5.drew g9 #[.int .i64 s, .int .i64 sn, .bool true, .slice R nr cr, .slice W k cw] 25) := blk_drew Q9.out
      have R3 : Hid (Blk w5.drew w.heap.size #[.int .i64 s, .int .i64 sn, .bool st, .slice R nr cr, .slice W nw cw] 25) := blk_drew Q3.out
      have R4 : Hid (Blk w5.drew (w.heap.size + 1) #[.int .i64 s2, .int .i64 sn2, .bool st2, .slice R2 nr2 cr2, .slice W2 nw2 cw2] 25) := blk_drew Q4.out
      clear c0 c1 c2 c3 c4 d0 d1 d2 d3 d4 q7 q9 hW5 Q7 Q8 Q9 Q3 Q4 hhi e1 e2 e3 e4 hj
      generalize hw6 : w5.drew = w6 at *
      rw [show ({ heap := w5.heap, tape := w5.tape, drawn := w5.drawn + 1, os := w5.os, output := w5.output } : World) = w6 from hw6]
      clear hw6 w5
      obtain ⟨c0, c1, c2, c3, c4⟩ := rec_cells _ _ _ _ _ _ _ _ _ R7.out
      obtain ⟨b0, b1, b2, b3, b4⟩ := rec_cells _ _ _ _ _ _ _ _ _ R4.out
      obtain ⟨d0, d1, d2, d3, d4⟩ := rec_cells _ _ _ _ _ _ _ _ _ R9.out
      have q4 := R4.out.lt
      have q7 := R7.out.lt
      have q9 := R9.out.lt
      have f9 := R9.out.frozen 3
      go_wp2_with fail
      have hW7 : Hid (Below w.heap.size w ((w6.setCell ⟨g9, 3, none⟩ (.slice R j cr)).alloc (.cells #[.int .i64 s2, .int .i64 sn2, .bool st2, .slice R2 nr2 cr2, .slice W2 nw2 cw2] 25))) := (hW6.out.setCell (by show _ ≤ g9; omega) _).alloc (by have := hW6.out.size; simpa using this) _
      have Q3 : Hid (Blk ((w6.setCell ⟨g9, 3, none⟩ (.slice R j cr)).alloc (.cells #[.int .i64 s2, .int .i64 sn2, .bool st2, .slice R2 nr2 cr2, .slice W2 nw2 cw2] 25)) w.heap.size #[.int .i64 s, .int .i64 sn, .bool st, .slice R nr cr, .slice W nw cw] 25) := (R3.out.far (by show _ ≠ g9; omega) _).alloc _
      have Q4 : Hid (Blk ((w6.setCell ⟨g9, 3, none⟩ (.slice R j cr)).alloc (.cells #[.int .i64 s2, .int .i64 sn2, .bool st2, .slice R2 nr2 cr2, .slice W2 nw2 cw2] 25)) (w.heap.size + 1) #[.int .i64 s2, .int .i64 sn2, .bool st2, .slice R2 nr2 cr2, .slice W2 nw2 cw2] 25) := (R4.out.far (by show _ ≠ g9; omega) _).alloc _
      have Q8 : Hid (Blk ((w6.setCell ⟨g9, 3, none⟩ (.slice R j cr)).alloc (.cells #[.int .i64 s2, .int .i64 sn2, .bool st2, .slice R2 nr2 cr2, .slice W2 nw2 cw2] 25)) g8 #[.int .i64 s, .int .i64 sn, .bool false, .slice R nr cr, .slice W nw cw] 25) := (R8.out.far (by show _ ≠ g9; omega) _).alloc _
      have Q9 : Hid (Blk ((w6.setCell ⟨g9, 3, none⟩ (.slice R j cr)).alloc (.cells #[.int .i64 s2, .int .i64 sn2, .bool st2, .slice R2 nr2 cr2, .slice W2 nw2 cw2] 25)) g9 #[.int .i64 s, .int .i64 sn, .bool true, .slice R j cr, .slice W k cw] 25) := (R9.out.set 3 _).alloc _
      have Q10 : Hid (Blk ((w6.setCell ⟨g9, 3, none⟩ (.slice R j cr)).alloc (.cells #[.int .i64 s2, .int .i64 sn2, .bool st2, .slice R2 nr2 cr2, .slice W2 nw2 cw2] 25)) w6.heap.size #[.int .i64 s2, .int .i64 sn2, .bool st2, .slice R2 nr2 cr2, .slice W2 nw2 cw2] 25) := blk_new (by simp)
      clear c0 c1 c2 c3 c4 d0 d1 d2 d3 d4 b0 b1 b2 b3 b4 q4 q7 q9 f9 hW6 R7 R8 R9 R3 R4
      generalize ((w6.setCell ⟨g9, 3, none⟩ (.slice R j cr)).alloc (.cells #[.int .i64 s2, .int .i64 sn2, .bool st2, .slice R2 nr2 cr2, .slice W2 nw2 cw2] 25)) = w7 at *
      generalize w6.heap.size = g10 at *
      clear w6
      have hSM : Hid (Small [(⟨s2, sn2, st2, rs2, ws2⟩ : Rec)]) := fun o h => by
        rw [List.mem_singleton.1 h]; obtain ⟨_, _, h3, h4⟩ := HO.out
        simp at h3 h4
        exact ⟨by simp; omega, by simp; omega⟩
      have hSM2 : Hid (Small [(⟨s, sn, st, rs, ws⟩ : Rec)]) := fun o h => by
        rw [List.mem_singleton.1 h]; obtain ⟨_, _, h3, h4⟩ := HRO.out
        simp at h3 h4
        exact ⟨by simp; omega, by simp; omega⟩
      have hL : Hid (∀ W', Below w.heap.size w W' → Blk W' g10 #[.int .i64 s2, .int .i64 sn2, .bool st2, .slice R2 nr2 cr2, .slice W2 nw2 cw2] 25 → Sl tRec W' (fun _ => True) (.slice (some ⟨g10, 0, none⟩) 1 1) [⟨s2, sn2, st2, rs2, ws2⟩]) := fun W' hb hg =>
        (one_rec' (ok := fun _ => True) (x := ⟨s2, sn2, st2, rs2, ws2⟩) _ _ _ _ _ _ _ _ _ hg (rec_mk (x := ⟨s2, sn2, st2, rs2, ws2⟩) (HWR2.out.below hb) (HWW2.out.below hb))).mono fun _ _ => trivial
      have hRT := Lib.hid (HWR.out.take hjn)
      have hWT := Lib.hid (HWW.out.take hkn)
      obtain ⟨b, hbv⟩ : ∃ b, (ws.any fun p => wrote ws2 p.key) = b := ⟨_, rfl⟩
      have hv1 : clash ws [⟨s2, sn2, st2, rs2, ws2⟩] = if b then 0 else -1 := by rw [clash_one]; show (if (ws.any fun p => wrote ws2 p.key) then (0 : Int) else -1) = _; rw [hbv]
      have hv2 : clash ws2 [⟨s, sn, st, rs, ws⟩] = if b then 0 else -1 := by rw [clash_one]; show (if (ws2.any fun p => wrote ws p.key) then (0 : Int) else -1) = _; rw [← clash_sym, hbv]
      have hca : Hid (∀ X, WS s sn st R nr cr W nw cw s2 sn2 st2 R2 nr2 cr2 W2 nw2 cw2 w g10 X → Calls Try.prog 11 #[.agg #[.int .i64 s, .int .i64 sn, .bool st, .slice R nr cr, .slice W nw cw], .slice (some ⟨g10, 0, none⟩) 1 1] X fun e w' => e = .returned (.int .i64 (if b then 0 else -1)) ∧ Below X.heap.size X w') := fun X hS => by
        have := clash_calls s sn st R nr cr W nw cw ws [⟨s2, sn2, st2, rs2, ws2⟩] (some ⟨g10, 0, none⟩) 1 1 X (HWW.out.below hS.after) (hL.out X hS.after hS.blk) hSM.out
        rwa [hv1] at this
      have hcb : Hid (∀ X g, WS s sn st R nr cr W nw cw s2 sn2 st2 R2 nr2 cr2 W2 nw2 cw2 w g10 X → Blk X g #[.int .i64 s, .int .i64 sn, .bool st, .slice R nr cr, .slice W nw cw] 25 → Calls Try.prog 11 #[.agg #[.int .i64 s2, .int .i64 sn2, .bool st2, .slice R2 nr2 cr2, .slice W2 nw2 cw2], .slice (some ⟨g, 0, none⟩) 1 1] X fun e w' => e = .returned (.int .i64 (if b then 0 else -1)) ∧ Below X.heap.size X w') := fun X g hS hg => by
        have := clash_calls s2 sn2 st2 R2 nr2 cr2 W2 nw2 cw2 ws2 [⟨s, sn, st, rs, ws⟩] (some ⟨g, 0, none⟩) 1 1 X (HWW2.out.below hS.after) ((one_rec' (ok := fun _ => True) (x := ⟨s, sn, st, rs, ws⟩) _ _ _ _ _ _ _ _ _ hg (rec_mk (x := ⟨s, sn, st, rs, ws⟩) (HWR.out.below hS.after) (HWW.out.below hS.after))).mono fun _ _ => trivial) hSM2.out
        rwa [hv2] at this
      have hWS : Hid (∀ X, Below w7.heap.size w7 X → WS s sn st R nr cr W nw cw s2 sn2 st2 R2 nr2 cr2 W2 nw2 cw2 w g10 X) := fun X hb => by
        obtain ⟨c0, c1, c2, c3, c4⟩ := rec_cells _ _ _ _ _ _ _ _ _ Q3.out
        obtain ⟨d0, d1, d2, d3, d4⟩ := rec_cells _ _ _ _ _ _ _ _ _ Q4.out
        exact WS.below (X := w7) ⟨c0, c1, c2, c3, c4, d0, d1, d2, d3, d4, Q10.out, hW7.out, by have := Q4.out.lt; show _ ≤ _; omega⟩ hb
      have hcc : Hid (∀ X a1 a2, WS s sn st R nr cr W nw cw s2 sn2 st2 R2 nr2 cr2 W2 nw2 cw2 w g10 X → (a1 = .agg #[.int .i64 s, .int .i64 sn, .bool st, .slice R nr cr, .slice W nw cw] ∧ a2 = .slice (some ⟨g10, 0, none⟩) 1 1 ∨ ∃ g, a1 = .agg #[.int .i64 s2, .int .i64 sn2, .bool st2, .slice R2 nr2 cr2, .slice W2 nw2 cw2] ∧ a2 = .slice (some ⟨g, 0, none⟩) 1 1 ∧ Blk X g #[.int .i64 s, .int .i64 sn, .bool st, .slice R nr cr, .slice W nw cw] 25) → Calls Try.prog 11 #[a1, a2] X fun e w' => e = .returned (.int .i64 (if b then 0 else -1)) ∧ Below X.heap.size X w') := fun X a1 a2 hS h => by
        rcases h with ⟨rfl, rfl⟩ | ⟨g, rfl, rfl, hg⟩
        · exact hca.out X hS
        · exact hcb.out X g hS hg
      clear hbv hv1 hv2 hca hcb
      have hm1 := may_calls ⟨s, sn, true, rs, ws⟩ R nr cr W nw cw [⟨s2, sn2, st2, rs2, ws2⟩] (some ⟨g10, 0, none⟩) 1 1 w7 (HWR.out.below hW7.out) (HWW.out.below hW7.out) (hL.out w7 hW7.out Q10.out) hSM.out
      cases hA : mayNot ⟨s, sn, true, rs, ws⟩ [⟨s2, sn2, st2, rs2, ws2⟩]
      · obtain ⟨hB, hC⟩ := mayNot_weaker s sn rs ws [⟨s2, sn2, st2, rs2, ws2⟩] j k hA
        rw [show mayV ⟨s, sn, true, rs, ws⟩ [⟨s2, sn2, st2, rs2, ws2⟩] = 0 by unfold mayV; rw [hA]; rfl] at hm1
        refine hm1.mono ?_
        rintro e w8 ⟨rfl, hb8⟩
        obtain ⟨c0, c1, c2, c3, c4⟩ := rec_cells _ _ _ _ _ _ _ _ _ (Q8.out.below hb8 Q8.out.lt)
        have q8 := (Q8.out.below hb8 Q8.out.lt).lt
        go_wp2_with fail
        have hW8 := hW7.out.trans (hb8.mono hW7.out.size)
        have hm2 := may_calls ⟨s, sn, false, rs, ws⟩ R nr cr W nw cw [⟨s2, sn2, st2, rs2, ws2⟩] (some ⟨g10, 0, none⟩) 1 1 w8 (HWR.out.below hW8) (HWW.out.below hW8) (hL.out w8 hW8 (Q10.out.below hb8 Q10.out.lt)) hSM.out
        rw [show mayV ⟨s, sn, false, rs, ws⟩ [⟨s2, sn2, st2, rs2, ws2⟩] = 0 by unfold mayV; rw [hB]; rfl] at hm2
        refine hm2.mono ?_
        rintro e w9 ⟨rfl, hb9⟩
        have HB9 := Lib.hid (hb8.trans (hb9.mono hb8.size))
        clear hb8 hb9 hm1 hm2 c0 c1 c2 c3 c4 q8
        obtain ⟨c0, c1, c2, c3, c4⟩ := rec_cells _ _ _ _ _ _ _ _ _ (Q9.out.below HB9.out Q9.out.lt)
        have q9 := (Q9.out.below HB9.out Q9.out.lt).lt
        go_wp2_with fail
        have hW9 := hW7.out.trans (HB9.out.mono hW7.out.size)
        have hm3 := may_calls ⟨s, sn, true, rs.take j, ws.take k⟩ R j cr W k cw [⟨s2, sn2, st2, rs2, ws2⟩] (some ⟨g10, 0, none⟩) 1 1 w9 (hRT.out.below hW9) (hWT.out.below hW9) (hL.out w9 hW9 (Q10.out.below HB9.out Q10.out.lt)) hSM.out
        rw [show mayV ⟨s, sn, true, rs.take j, ws.take k⟩ [⟨s2, sn2, st2, rs2, ws2⟩] = 0 by unfold mayV; rw [hC]; rfl] at hm3
        refine hm3.mono ?_
        rintro e w10 ⟨rfl, hb10⟩
        have hS : WS s sn st R nr cr W nw cw s2 sn2 st2 R2 nr2 cr2 W2 nw2 cw2 w g10 w10 := hWS.out _ (HB9.out.trans (hb10.mono HB9.out.size))
        clear HB9 hb10 hm3 c0 c1 c2 c3 c4 q9 hW8 hW9 hA hB hC
        cases b
        all_goals
          simp only [if_true, if_false, Bool.false_eq_true] at hcc
          go_wp2_with fail
          go_region_held3 (fun X => X.cell? ⟨w.heap.size, 0, none⟩ = some (.int .i64 s) ∧ X.cell? ⟨w.heap.size, 1, none⟩ = some (.int .i64 sn) ∧ X.cell? ⟨w.heap.size, 2, none⟩ = some (.bool st) ∧ X.cell? ⟨w.heap.size, 3, none⟩ = some (.slice R nr cr) ∧ X.cell? ⟨w.heap.size, 4, none⟩ = some (.slice W nw cw) ∧ X.cell? ⟨w.heap.size + 1, 0, none⟩ = some (.int .i64 s2) ∧ X.cell? ⟨w.heap.size + 1, 1, none⟩ = some (.int .i64 sn2) ∧ X.cell? ⟨w.heap.size + 1, 2, none⟩ = some (.bool st2) ∧ X.cell? ⟨w.heap.size + 1, 3, none⟩ = some (.slice R2 nr2 cr2) ∧ X.cell? ⟨w.heap.size + 1, 4, none⟩ = some (.slice W2 nw2 cw2) ∧ Hid (Blk X g10 #[.int .i64 s2, .int .i64 sn2, .bool st2, .slice R2 nr2 cr2, .slice W2 nw2 cw2] 25) ∧ Hid (Below w.heap.size w X) ∧ Hid (w.heap.size + 2 ≤ X.heap.size)) ((show WS s sn st R nr cr W nw cw s2 sn2 st2 R2 nr2 cr2 W2 nw2 cw2 w g10 _; repeat (first | with_reducible exact hS | with_reducible refine WS.drew ?_ | with_reducible refine WS.alloc ?_ _)))
            (first
            | (go_at_call 10; refine (lives_calls _).mono ?_; rintro e w1 ⟨rfl, hb1⟩; have hS : WS s sn st R nr cr W nw cw s2 sn2 st2 R2 nr2 cr2 W2 nw2 cw2 w g10 w1 := (WS.below (by repeat (first | with_reducible exact hS | with_reducible refine WS.drew ?_ | with_reducible refine WS.alloc ?_ _)) hb1))
            | (go_at_call 11; refine (hcc.out _ _ _ ?_ ?_).mono ?_; (focus (repeat (first | with_reducible exact hS | with_reducible refine WS.drew ?_ | with_reducible refine WS.alloc ?_ _))); (focus first | with_reducible exact .inl ⟨rfl, rfl⟩ | with_reducible exact .inr ⟨_, rfl, rfl, blk_new (by simp)⟩ | (refine .inr ⟨_, rfl, rfl, ?_⟩; (repeat (first | with_reducible exact blk_new (by simp) | with_reducible refine blk_drew ?_ | with_reducible refine Blk.alloc ?_ _ | with_reducible refine Blk.below ?_ hb1 ?_ | (show (_ : Nat) < _; simp; done) | fail))));  rintro e w1 ⟨rfl, hb1⟩; have hS : WS s sn st R nr cr W nw cw s2 sn2 st2 R2 nr2 cr2 W2 nw2 cw2 w g10 w1 := (WS.below (by repeat (first | with_reducible exact hS | with_reducible refine WS.drew ?_ | with_reducible refine WS.alloc ?_ _)) hb1)))
          all_goals
            go_wp2
            go_ret
            exact ⟨rfl, hS.after⟩
      · rw [show mayV ⟨s, sn, true, rs, ws⟩ [⟨s2, sn2, st2, rs2, ws2⟩] = 10 by unfold mayV; rw [hA]; rfl] at hm1
        refine hm1.mono ?_
        rintro e w10 ⟨rfl, hb10⟩
        have hS : WS s sn st R nr cr W nw cw s2 sn2 st2 R2 nr2 cr2 W2 nw2 cw2 w g10 w10 := hWS.out _ hb10
        clear hb10 hm1 hA
        cases b
        all_goals
          simp only [if_true, if_false, Bool.false_eq_true] at hcc
          go_wp2_with fail
          go_region_held3 (fun X => X.cell? ⟨w.heap.size, 0, none⟩ = some (.int .i64 s) ∧ X.cell? ⟨w.heap.size, 1, none⟩ = some (.int .i64 sn) ∧ X.cell? ⟨w.heap.size, 2, none⟩ = some (.bool st) ∧ X.cell? ⟨w.heap.size, 3, none⟩ = some (.slice R nr cr) ∧ X.cell? ⟨w.heap.size, 4, none⟩ = some (.slice W nw cw) ∧ X.cell? ⟨w.heap.size + 1, 0, none⟩ = some (.int .i64 s2) ∧ X.cell? ⟨w.heap.size + 1, 1, none⟩ = some (.int .i64 sn2) ∧ X.cell? ⟨w.heap.size + 1, 2, none⟩ = some (.bool st2) ∧ X.cell? ⟨w.heap.size + 1, 3, none⟩ = some (.slice R2 nr2 cr2) ∧ X.cell? ⟨w.heap.size + 1, 4, none⟩ = some (.slice W2 nw2 cw2) ∧ Hid (Blk X g10 #[.int .i64 s2, .int .i64 sn2, .bool st2, .slice R2 nr2 cr2, .slice W2 nw2 cw2] 25) ∧ Hid (Below w.heap.size w X) ∧ Hid (w.heap.size + 2 ≤ X.heap.size)) ((show WS s sn st R nr cr W nw cw s2 sn2 st2 R2 nr2 cr2 W2 nw2 cw2 w g10 _; repeat (first | with_reducible exact hS | with_reducible refine WS.drew ?_ | with_reducible refine WS.alloc ?_ _)))
            (first
            | (go_at_call 10; refine (lives_calls _).mono ?_; rintro e w1 ⟨rfl, hb1⟩; have hS : WS s sn st R nr cr W nw cw s2 sn2 st2 R2 nr2 cr2 W2 nw2 cw2 w g10 w1 := (WS.below (by repeat (first | with_reducible exact hS | with_reducible refine WS.drew ?_ | with_reducible refine WS.alloc ?_ _)) hb1))
            | (go_at_call 11; refine (hcc.out _ _ _ ?_ ?_).mono ?_; (focus (repeat (first | with_reducible exact hS | with_reducible refine WS.drew ?_ | with_reducible refine WS.alloc ?_ _))); (focus first | with_reducible exact .inl ⟨rfl, rfl⟩ | with_reducible exact .inr ⟨_, rfl, rfl, blk_new (by simp)⟩ | (refine .inr ⟨_, rfl, rfl, ?_⟩; (repeat (first | with_reducible exact blk_new (by simp) | with_reducible refine blk_drew ?_ | with_reducible refine Blk.alloc ?_ _ | with_reducible refine Blk.below ?_ hb1 ?_ | (show (_ : Nat) < _; simp; done) | fail))));  rintro e w1 ⟨rfl, hb1⟩; have hS : WS s sn st R nr cr W nw cw s2 sn2 st2 R2 nr2 cr2 W2 nw2 cw2 w g10 w1 := (WS.below (by repeat (first | with_reducible exact hS | with_reducible refine WS.drew ?_ | with_reducible refine WS.alloc ?_ _)) hb1)))
          all_goals
            go_wp2
            go_ret
            exact ⟨rfl, hS.after⟩
end Go.Proofs.Ytlbcckdbpgofmaa
