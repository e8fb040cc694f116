import Derived.Test.YtlbcckdbpgofmaaW18
/-! CertifyAsks. -/
namespace Go.Proofs.Ytlbcckdbpgofmaa
open Go.RowKit Go.Op

theorem alike_refl {α : Type} {q : α → α → Bool} (h : ∀ x, q x x = true) : ∀ l : List α, alike q l l = true
  | [] => rfl
  | a :: l => by rw [alike, h a, alike_refl h l]; rfl
theorem sameRds_refl (l : List Rd) : sameRds l l = true := alike_refl (fun x => by
  have : samePairs x.pairs x.pairs = true := alike_refl (fun p => by simp [samePair]) _
  simp [sameRd, this]) l

/-- What stays while all is asked. -/
def AS (s sn : Int) (st : Bool) (R : Option Addr) (nr cr : Nat) (W : Option Addr) (nw cw : Nat) (sc : Bool) (k t : ByteArray) (P : Option Addr) (np cp : Nat) (w : World) (X : World) : Prop :=
  X.cell? ⟨w.heap.size, 0, none⟩ = some (.int .i64 s) ∧ X.cell? ⟨w.heap.size, 1, none⟩ = some (.int .i64 sn) ∧ X.cell? ⟨w.heap.size, 2, none⟩ = some (.bool st) ∧ X.cell? ⟨w.heap.size, 3, none⟩ = some (.slice R nr cr) ∧ X.cell? ⟨w.heap.size, 4, none⟩ = some (.slice W nw cw) ∧ X.cell? ⟨w.heap.size + 1, 0, none⟩ = some (.bool sc) ∧ X.cell? ⟨w.heap.size + 1, 1, none⟩ = some (.string k) ∧ X.cell? ⟨w.heap.size + 1, 2, none⟩ = some (.string t) ∧ X.cell? ⟨w.heap.size + 1, 3, none⟩ = some (.slice P np cp) ∧ Hid (Below w.heap.size w X) ∧ Hid (w.heap.size + 2 ≤ X.heap.size)
section
variable {s sn : Int} {st : Bool} {R : Option Addr} {nr cr : Nat} {W : Option Addr} {nw cw : Nat} {sc : Bool} {k t : ByteArray} {P : Option Addr} {np cp : Nat} {w : World} {X X' : World}
theorem AS.below (h : AS s sn st R nr cr W nw cw sc k t P np cp w X) (hb : Below X.heap.size X X') : AS s sn st R nr cr W nw cw sc k t P np cp w X' := by
  obtain ⟨a0, a1, a2, a3, a4, b0, b1, b2, b3, hB, hz⟩ := h
  have hz' := hz.out
  obtain ⟨hc, -⟩ := bcell hb
  refine ⟨?_, ?_, ?_, ?_, ?_, ?_, ?_, ?_, ?_, hB.out.trans (hb.mono hB.out.size), Nat.le_trans hz.out hb.size⟩ <;> (rw [hc _ _ (by omega)]; assumption)
theorem AS.alloc (h : AS s sn st R nr cr W nw cw sc k t P np cp w X) (o : Obj) : AS s sn st R nr cr W nw cw sc k t P np cp w (X.alloc o) := h.below ((Below.refl _ _).alloc (Nat.le_refl _) o)
theorem AS.drew (h : AS s sn st R nr cr W nw cw sc k t P np cp w X) : AS s sn st R nr cr W nw cw sc k t P np cp w X.drew := h.below (Below.refl _ _).drew
theorem AS.after (h : AS s sn st R nr cr W nw cw sc k t P np cp w X) : Below w.heap.size w X := h.2.2.2.2.2.2.2.2.2.1.out
end

theorem one_rec2 {w : World} {ok : Nat → Prop} {g : Nat} {x : Rec} (s sn : Int) (st : Bool) (R : Option Addr) (nr cr : Nat) (W : Option Addr) (nw cw : Nat) (h : Blk w g #[.int .i64 s, .int .i64 sn, .bool st, .slice R nr cr, .slice W nw cw] 25)
    (hx : tRec.K w ok x [.int .i64 s, .int .i64 sn, .bool st, .slice R nr cr, .slice W nw cw]) :
    Sl tRec w (fun b => ok b ∨ b = g) (.slice (some ⟨g, 0, none⟩) 1 1) [x] :=
  ⟨_, 1, [.int .i64 s, .int .i64 sn, .bool st, .slice R nr cr, .slice W nw cw], rfl, Nat.le_refl _, ⟨by omega, fun h => by cases h⟩,
    (Cells.one hx).mono fun b h => .inl h, .inr ⟨g, 0, rfl, .inr rfl, fun j u hj => by rw [h.cell (0 + j)]; simpa using hj⟩⟩

set_option maxHeartbeats 8000000 in
theorem asks_calls (s sn : Int) (st : Bool) (R : Option Addr) (nr cr : Nat) (W : Option Addr) (nw cw : Nat) (rs : List Rd) (ws : List Pair) (sc : Bool) (k t : ByteArray) (P : Option Addr) (np cp : Nat) (w : World)
    (hr : Sl tRead w (fun _ => True) (.slice R nr cr) rs) (hw : Sl tPair w (fun _ => True) (.slice W nw cw) ws) (hro : RecOk ⟨s, sn, st, rs, ws⟩) (hn : nr * 64 ≤ 140737488351232) (hf : k.size ≤ 140737488351232) (ht : t.size ≤ 140737488351232) :
    Calls Try.prog 7 #[.agg #[.int .i64 s, .int .i64 sn, .bool st, .slice R nr cr, .slice W nw cw], .agg #[.bool sc, .string k, .string t, .slice P np cp]] w fun e w' => e = .returned (.bool true) ∧ Below w.heap.size w w' := by
  have HWR := Lib.hid hr
  have HWW := Lib.hid hw
  have HRO := Lib.hid hro
  have HB0 : Hid (Blk ((w.alloc (.cells #[.int .i64 s, .int .i64 sn, .bool st, .slice R nr cr, .slice W nw cw] 25)).alloc (.cells #[.bool sc, .string k, .string t, .slice P np cp] 41)) w.heap.size #[.int .i64 s, .int .i64 sn, .bool st, .slice R nr cr, .slice W nw cw] 25) := (Blk.new w _ 25).alloc _
  have HB1 : Hid (Blk ((w.alloc (.cells #[.int .i64 s, .int .i64 sn, .bool st, .slice R nr cr, .slice W nw cw] 25)).alloc (.cells #[.bool sc, .string k, .string t, .slice P np cp] 41)) (w.heap.size + 1) #[.bool sc, .string k, .string t, .slice P np cp] 41) := blk_new (by simp)
  have HY : Hid (Below w.heap.size w ((w.alloc (.cells #[.int .i64 s, .int .i64 sn, .bool st, .slice R nr cr, .slice W nw cw] 25)).alloc (.cells #[.bool sc, .string k, .string t, .slice P np cp] 41))) := ((Below.refl _ _).alloc (Nat.le_refl _) _).alloc (by simp) _
  have HZ : Hid (((w.alloc (.cells #[.int .i64 s, .int .i64 sn, .bool st, .slice R nr cr, .slice W nw cw] 25)).alloc (.cells #[.bool sc, .string k, .string t, .slice P np cp] 41)).heap.size = w.heap.size + 2) := by show _ = _; simp
  have HS2 : Hid (Sl tRec (((w.alloc (.cells #[.int .i64 s, .int .i64 sn, .bool st, .slice R nr cr, .slice W nw cw] 25)).alloc (.cells #[.bool sc, .string k, .string t, .slice P np cp] 41)).alloc (.cells #[.int .i64 s, .int .i64 sn, .bool st, .slice R nr cr, .slice W nw cw] 25)) (fun _ => True) (.slice (some ⟨w.heap.size + 1 + 1, 0, none⟩) 1 1) [⟨s, sn, st, rs, ws⟩]) := by
    have hb2 : Below w.heap.size w (((w.alloc (.cells #[.int .i64 s, .int .i64 sn, .bool st, .slice R nr cr, .slice W nw cw] 25)).alloc (.cells #[.bool sc, .string k, .string t, .slice P np cp] 41)).alloc (.cells #[.int .i64 s, .int .i64 sn, .bool st, .slice R nr cr, .slice W nw cw] 25)) := HY.out.alloc HY.out.size _
    exact (one_rec2 (ok := fun _ => True) (x := ⟨s, sn, st, rs, ws⟩) _ _ _ _ _ _ _ _ _ (blk_new (by rw [HZ.out])) (rec_mk (x := ⟨s, sn, st, rs, ws⟩) (hr.below hb2) (hw.below hb2))).mono fun _ _ => trivial
  clear hr hw hro
  go_enter Try.func7, Try.ntmps7
  go_wp2_with fail
  refine (lights_calls [⟨s, sn, st, rs, ws⟩] _ 1 1 _ HS2.out (fun x hx => by rw [List.mem_singleton.1 hx]; exact HRO.out)).mono ?_
  rintro e w1 ⟨b, rfl, hb1⟩
  have HW1 := Lib.hid (HY.out.trans (((Below.refl _ _).alloc (Nat.le_refl _) _).trans (hb1.mono (by simp)) |>.mono HY.out.size))
  have HB2 := Lib.hid ((HB0.out.alloc (.cells #[.int .i64 s, .int .i64 sn, .bool st, .slice R nr cr, .slice W nw cw] 25)).below hb1 (HB0.out.alloc _).lt)
  have HB3 := Lib.hid ((HB1.out.alloc (.cells #[.int .i64 s, .int .i64 sn, .bool st, .slice R nr cr, .slice W nw cw] 25)).below hb1 (HB1.out.alloc _).lt)
  clear hb1 HS2 HB0 HB1 HY HZ
  obtain ⟨c0, c1, c2, c3, c4⟩ := rec_cells _ _ _ _ _ _ _ _ _ HB2.out
  have d0 : w1.cell? ⟨w.heap.size + 1, 0, none⟩ = some (.bool sc) := HB3.out.cell 0
  have d1 : w1.cell? ⟨w.heap.size + 1, 1, none⟩ = some (.string k) := HB3.out.cell 1
  have d2 : w1.cell? ⟨w.heap.size + 1, 2, none⟩ = some (.string t) := HB3.out.cell 2
  have d3 : w1.cell? ⟨w.heap.size + 1, 3, none⟩ = some (.slice P np cp) := HB3.out.cell 3
  have q0 := HB2.out.lt
  have q1 := HB3.out.lt
  have hS : AS s sn st R nr cr W nw cw sc k t P np cp w w1 := ⟨c0, c1, c2, c3, c4, d0, d1, d2, d3, HW1.out, q1⟩
  by_cases hgo : b = true ∧ k.size + t.size ≤ 300
  · obtain ⟨rfl, hlen⟩ := hgo
    have hwn : nw ≤ 4611686018427387904 := by
      have h1 := HWW.out.length.1
      have h2 := HRO.out.2.2.1
      simp at h2; omega
    have hks : ∀ x ∈ rs, x.key.size ≤ maxLen := fun x hx => by
      have := (HRO.out.2.1 x hx).1
      unfold maxLen; omega
    have h17 : Hid (∀ X, AS s sn st R nr cr W nw cw sc k t P np cp w X → Calls Try.prog 17 #[.agg #[.int .i64 s, .int .i64 sn, .bool st, .slice R nr cr, .slice W nw cw], .string k] X fun e w' => e = .returned (.bool (wrote ws k)) ∧ Below X.heap.size X w') := fun X h => wrote_calls s sn st R nr cr W nw cw ws k X (HWW.out.below h.after) hwn
    have h19 : Hid (∀ X, AS s sn st R nr cr W nw cw sc k t P np cp w X → Calls Try.prog 19 #[.agg #[.int .i64 s, .int .i64 sn, .bool st, .slice R nr cr, .slice W nw cw], .string k] X fun e w' => e = .returned (.bool (wrote ws k)) ∧ Below X.heap.size X w') := fun X h => rwrote_calls s sn st R nr cr W nw cw ws k X (HWW.out.below h.after)
    have h18 : Hid (∀ X, AS s sn st R nr cr W nw cw sc k t P np cp w X → Calls Try.prog 18 #[.agg #[.int .i64 s, .int .i64 sn, .bool st, .slice R nr cr, .slice W nw cw], .agg #[.bool sc, .string k, .string t, .slice P np cp]] X fun e w' => e = .returned (.bool (touches ws ⟨sc, k, t, []⟩)) ∧ Below X.heap.size X w') := fun X h => touches_calls s sn st R nr cr W nw cw sc k t [] P np cp ws X (HWW.out.below h.after) hwn
    have h20 : Hid (∀ X, AS s sn st R nr cr W nw cw sc k t P np cp w X → Calls Try.prog 20 #[.agg #[.int .i64 s, .int .i64 sn, .bool st, .slice R nr cr, .slice W nw cw], .agg #[.bool sc, .string k, .string t, .slice P np cp]] X fun e w' => e = .returned (.bool (touches ws ⟨sc, k, t, []⟩)) ∧ Below X.heap.size X w') := fun X h => rtouches_calls s sn st R nr cr W nw cw sc k t [] P np cp ws X (HWW.out.below h.after)
    have h22 : Hid (∀ X, AS s sn st R nr cr W nw cw sc k t P np cp w X → Calls Try.prog 22 #[.agg #[.int .i64 s, .int .i64 sn, .bool st, .slice R nr cr, .slice W nw cw]] X fun e w' => ∃ A n c, e = .returned (.slice A n c) ∧ Hid (Sl tRead w' (fun _ => True) (.slice A n c) (keep [] rs)) ∧ Below X.heap.size X w') := fun X h =>
      (own_calls s sn st R nr cr W nw cw rs X (HWR.out.below h.after) hks hn).mono fun e w' ⟨v, e1, h1, h2⟩ => by
        obtain ⟨A, c, e2, -⟩ := h1.form
        exact ⟨A, _, c, by rw [e1, e2], by rw [e2] at h1; exact h1, h2⟩
    have h23 : Hid (∀ X, AS s sn st R nr cr W nw cw sc k t P np cp w X → Calls Try.prog 23 #[.agg #[.int .i64 s, .int .i64 sn, .bool st, .slice R nr cr, .slice W nw cw]] X fun e w' => ∃ A n c, e = .returned (.slice A n c) ∧ Hid (Sl tRead w' (fun _ => True) (.slice A n c) (keep [] rs)) ∧ Below X.heap.size X w') := fun X h =>
      (rown_calls s sn st R nr cr W nw cw rs X (HWR.out.below h.after) hn).mono fun e w' ⟨v, e1, h1, h2⟩ => by
        obtain ⟨A, c, e2, -⟩ := h1.form
        exact ⟨A, _, c, by rw [e1, e2], by rw [e2] at h1; exact h1, h2⟩
    have h21 : Hid (∀ A n c A2 n2 c2 X, Hid (Sl tRead X (fun _ => True) (.slice A n c) (keep [] rs)) → Hid (Sl tRead X (fun _ => True) (.slice A2 n2 c2) (keep [] rs)) → Calls Try.prog 21 #[.slice A n c, .slice A2 n2 c2] X fun e w' => e = .returned (.bool true) ∧ Below X.heap.size X w') := fun A n c A2 n2 c2 X h1 h2 => by
      have := samereads_calls _ _ A n c A2 n2 c2 X h1.out h2.out
      rwa [sameRds_refl] at this
    clear HWR HWW HRO HB2 HB3 hks hwn hn
    go_wp2_with fail
    clear c0 c1 c2 c3 c4 d0 d1 d2 d3 q0 q1
    go_region_held3 (fun X => X.cell? ⟨w.heap.size, 0, none⟩ = some (.int .i64 s) ∧ X.cell? ⟨w.heap.size, 1, none⟩ = some (.int .i64 sn) ∧ X.cell? ⟨w.heap.size, 2, none⟩ = some (.bool st) ∧ X.cell? ⟨w.heap.size, 3, none⟩ = some (.slice R nr cr) ∧ X.cell? ⟨w.heap.size, 4, none⟩ = some (.slice W nw cw) ∧ X.cell? ⟨w.heap.size + 1, 0, none⟩ = some (.bool sc) ∧ X.cell? ⟨w.heap.size + 1, 1, none⟩ = some (.string k) ∧ X.cell? ⟨w.heap.size + 1, 2, none⟩ = some (.string t) ∧ X.cell? ⟨w.heap.size + 1, 3, none⟩ = some (.slice P np cp) ∧ Hid (Below w.heap.size w X) ∧ Hid (w.heap.size + 2 ≤ X.heap.size)) ((show AS s sn st R nr cr W nw cw sc k t P np cp w _; (repeat (first | with_reducible exact hS | with_reducible refine AS.drew ?_ | with_reducible refine AS.alloc ?_ _))))
      (first
      | (go_at_call 17; refine (h17.out _ ?_).mono ?_; (focus (repeat (first | with_reducible exact hS | with_reducible refine AS.drew ?_ | with_reducible refine AS.alloc ?_ _))); rintro e w2 ⟨rfl, hb1⟩; have hS : AS s sn st R nr cr W nw cw sc k t P np cp w w2 := AS.below (by (repeat (first | with_reducible exact hS | with_reducible refine AS.drew ?_ | with_reducible refine AS.alloc ?_ _))) hb1)
      | (go_at_call 19; refine (h19.out _ ?_).mono ?_; (focus (repeat (first | with_reducible exact hS | with_reducible refine AS.drew ?_ | with_reducible refine AS.alloc ?_ _))); rintro e w2 ⟨rfl, hb1⟩; have hS : AS s sn st R nr cr W nw cw sc k t P np cp w w2 := AS.below (by (repeat (first | with_reducible exact hS | with_reducible refine AS.drew ?_ | with_reducible refine AS.alloc ?_ _))) hb1)
      | (go_at_call 18; refine (h18.out _ ?_).mono ?_; (focus (repeat (first | with_reducible exact hS | with_reducible refine AS.drew ?_ | with_reducible refine AS.alloc ?_ _))); rintro e w2 ⟨rfl, hb1⟩; have hS : AS s sn st R nr cr W nw cw sc k t P np cp w w2 := AS.below (by (repeat (first | with_reducible exact hS | with_reducible refine AS.drew ?_ | with_reducible refine AS.alloc ?_ _))) hb1)
      | (go_at_call 20; refine (h20.out _ ?_).mono ?_; (focus (repeat (first | with_reducible exact hS | with_reducible refine AS.drew ?_ | with_reducible refine AS.alloc ?_ _))); rintro e w2 ⟨rfl, hb1⟩; have hS : AS s sn st R nr cr W nw cw sc k t P np cp w w2 := AS.below (by (repeat (first | with_reducible exact hS | with_reducible refine AS.drew ?_ | with_reducible refine AS.alloc ?_ _))) hb1)
      | (go_at_call 22; refine (h22.out _ ?_).mono ?_; (focus (repeat (first | with_reducible exact hS | with_reducible refine AS.drew ?_ | with_reducible refine AS.alloc ?_ _))); rintro e w2 ⟨A1, n1, cp1, rfl, hs1, hb1⟩; have hS : AS s sn st R nr cr W nw cw sc k t P np cp w w2 := AS.below (by (repeat (first | with_reducible exact hS | with_reducible refine AS.drew ?_ | with_reducible refine AS.alloc ?_ _))) hb1)
      | (go_at_call 23; refine (h23.out _ ?_).mono ?_; (focus (repeat (first | with_reducible exact hS | with_reducible refine AS.drew ?_ | with_reducible refine AS.alloc ?_ _))); rintro e w2 ⟨A2, n2, cp2, rfl, hs2, hb2⟩; have hS : AS s sn st R nr cr W nw cw sc k t P np cp w w2 := AS.below (by (repeat (first | with_reducible exact hS | with_reducible refine AS.drew ?_ | with_reducible refine AS.alloc ?_ _))) hb2; have hs1 := Lib.hid (hs1.out.below hb2))
      | (go_at_call 21; refine (h21.out _ _ _ _ _ _ _ ?_ ?_).mono ?_; (focus exact hs1); (focus exact hs2); rintro e w2 ⟨rfl, hb2⟩; have hS : AS s sn st R nr cr W nw cw sc k t P np cp w w2 := AS.below (by (repeat (first | with_reducible exact hS | with_reducible refine AS.drew ?_ | with_reducible refine AS.alloc ?_ _))) hb2)
      | (go_at_call 10; refine (lives_calls _).mono ?_; rintro e w2 ⟨rfl, hb1⟩; have hS : AS s sn st R nr cr W nw cw sc k t P np cp w w2 := AS.below (by (repeat (first | with_reducible exact hS | with_reducible refine AS.drew ?_ | with_reducible refine AS.alloc ?_ _))) hb1))
    all_goals
      go_wp2
      go_ret
      exact ⟨rfl, hS.after⟩
  · cases b
    · go_wp2_with fail
      refine (lives_calls _).mono ?_
      rintro e w5 ⟨rfl, hb5⟩
      go_wp2
      go_ret
      exact ⟨rfl, HW1.out.trans (hb5.mono HW1.out.size)⟩
    · have hno : 300 < k.size + t.size := by
        rcases Nat.lt_or_ge 300 (k.size + t.size) with h | h
        · exact h
        · exact absurd ⟨rfl, h⟩ hgo
      clear hgo
      go_wp2_with fail
      refine (lives_calls _).mono ?_
      rintro e w5 ⟨rfl, hb5⟩
      go_wp2
      go_ret
      exact ⟨rfl, HW1.out.trans (hb5.mono HW1.out.size)⟩
end Go.Proofs.Ytlbcckdbpgofmaa
