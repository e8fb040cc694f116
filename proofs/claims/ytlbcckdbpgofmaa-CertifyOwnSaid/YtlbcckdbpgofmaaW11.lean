import Derived.Test.YtlbcckdbpgofmaaW10
/-! Records in a row of the call's own. -/
namespace Go.Proofs.Ytlbcckdbpgofmaa
open Go.RowKit Go.Op

theorem info25 : (Try.prog.info? 25).map (fun i => (i.zero, i.size, i.bytes)) = some (some (.agg #[.int .i64 0, .int .i64 0, .bool false, .slice none 0 0, .slice none 0 0]), 5, 72) := by kernel_rfl
theorem Own.oneBlk {α : Type} {t : Ty α} {w : World} {base g : Nat} {e : TypeId} {ok : Nat → Prop} {y : α} {cs : List Value} (h : Blk w g cs.toArray e) (hK : t.K w (fun b => ok b ∧ g ≠ b) y cs) (hb : base ≤ g) :
    Own t w base e ok (.slice (some ⟨g, 0, .none⟩) 1 1) [y] :=
  ⟨cs, ⟨by rw [t.len hK]; simp, .inr ⟨g, 1, cs.toArray, rfl, hb, h, Nat.le_refl _, by simp [maxLen], by simp [t.len hK], by simp [List.take_of_length_le (Nat.le_of_eq (t.len hK))]⟩⟩, Cells.one (t.mono hK fun b hb => ⟨hb.1, fun e => hb.2 (by simpa [Value.ownBlock] using e)⟩)⟩

set_option maxHeartbeats 4000000 in
theorem mays_calls (r : Rec) (R : Option Addr) (nr cr : Nat) (W : Option Addr) (nw cw : Nat) (l : List Rec) (A : Option Addr) (n cap : Nat) (w : World) (hr : Sl tRead w (fun _ => True) (.slice R nr cr) r.reads) (hw : Sl tPair w (fun _ => True) (.slice W nw cw) r.writes) (hl : Sl tRec w (fun _ => True) (.slice A n cap) l) (hro : RecOk r) (ho : ∀ x ∈ l, RecOk x) (hn : n ≤ 1954687338211) :
    Calls Try.prog 3 #[.agg #[.int .i64 r.sess, .int .i64 r.snap, .bool r.strict, .slice R nr cr, .slice W nw cw], .slice A n cap] w fun e w' => e = .returned (.bool true) ∧ Below w.heap.size w w' := by
  have hs : Small l := fun o h => by obtain ⟨_, _, h3, h4⟩ := ho o h; omega
  have hB0 := Blk.new w #[.int .i64 r.sess, .int .i64 r.snap, .bool r.strict, .slice R nr cr, .slice W nw cw] 25
  have hb0 : Below w.heap.size w (w.alloc (.cells #[.int .i64 r.sess, .int .i64 r.snap, .bool r.strict, .slice R nr cr, .slice W nw cw] 25)) := (Below.refl _ _).alloc (Nat.le_refl _) _
  have hr0 := Lib.hid (hr.below hb0)
  have hw0 := Lib.hid (hw.below hb0)
  have hl0 := Lib.hid (hl.below hb0)
  have hz : (w.alloc (.cells #[.int .i64 r.sess, .int .i64 r.snap, .bool r.strict, .slice R nr cr, .slice W nw cw] 25)).heap.size = w.heap.size + 1 := by simp
  have HO := Lib.hid ho
  have HRO := Lib.hid hro
  have HLN := Lib.hid hl.length.1
  have HBl := Lib.hid hB0
  have HB := Lib.hid hb0
  have HZ := Lib.hid hz
  have hbb : Below w.heap.size w ((w.alloc (.cells #[.int .i64 r.sess, .int .i64 r.snap, .bool r.strict, .slice R nr cr, .slice W nw cw] 25)).alloc (.cells #[.int .i64 r.sess, .int .i64 r.snap, .bool r.strict, .slice R nr cr, .slice W nw cw] 25)) := hb0.alloc hb0.size _
  have hwr := Lib.hid hr
  have hww := Lib.hid hw
  have hwl := Lib.hid hl
  have HSM := Lib.hid hs
  have HO1 : Hid (Own tRec ((w.alloc (.cells #[.int .i64 r.sess, .int .i64 r.snap, .bool r.strict, .slice R nr cr, .slice W nw cw] 25)).alloc (.cells #[.int .i64 r.sess, .int .i64 r.snap, .bool r.strict, .slice R nr cr, .slice W nw cw] 25)) (w.heap.size + 1) 25 (fun b => b < w.heap.size) (.slice (some ⟨w.heap.size + 1, 0, none⟩) 1 1) [r]) := by
    have hB1 := Blk.new (w.alloc (.cells #[.int .i64 r.sess, .int .i64 r.snap, .bool r.strict, .slice R nr cr, .slice W nw cw] 25)) #[.int .i64 r.sess, .int .i64 r.snap, .bool r.strict, .slice R nr cr, .slice W nw cw] 25
    rw [hz] at hB1
    refine Own.oneBlk (cs := [.int .i64 r.sess, .int .i64 r.snap, .bool r.strict, .slice R nr cr, .slice W nw cw]) hB1 (rec_mk ?_ ?_) (Nat.le_refl _)
    · exact (hr.inb.below (hbb.mono (Nat.le_refl _))).mono fun b h => ⟨h.2, by omega⟩
    · exact (hw.inb.below (hbb.mono (Nat.le_refl _))).mono fun b h => ⟨h.2, by omega⟩
  have HS1 : Hid (SlX tRec ((w.alloc (.cells #[.int .i64 r.sess, .int .i64 r.snap, .bool r.strict, .slice R nr cr, .slice W nw cw] 25)).alloc (.cells #[.int .i64 r.sess, .int .i64 r.snap, .bool r.strict, .slice R nr cr, .slice W nw cw] 25)) (fun b => b < w.heap.size ∧ (Value.slice (some ⟨w.heap.size + 1, 0, none⟩) 1 1).ownBlock ≠ some b) (.slice A n cap) l) := by
    refine ((hl.inb.below (hbb.mono (Nat.le_refl _))).mono fun b h => ⟨h.2, ?_⟩).x
    simp [Value.ownBlock]; omega
  have HB1 : Hid (Below (w.heap.size + 1) (w.alloc (.cells #[.int .i64 r.sess, .int .i64 r.snap, .bool r.strict, .slice R nr cr, .slice W nw cw] 25)) ((w.alloc (.cells #[.int .i64 r.sess, .int .i64 r.snap, .bool r.strict, .slice R nr cr, .slice W nw cw] 25)).alloc (.cells #[.int .i64 r.sess, .int .i64 r.snap, .bool r.strict, .slice R nr cr, .slice W nw cw] 25))) := (Below.refl _ _).alloc (by rw [hz]; omega) _
  clear hr hw hl hb0 hB0 ho hro hz hbb
  go_enter Try.func3, Try.ntmps3
  go_wp2_with (at_builtin; refine wpList_appSl (o := ⟨some 8, _, _, _, _, _⟩) (t := tRec) (ok := fun b => b < w.heap.size) (l := [r]) (m := l) (w0 := w.alloc (.cells #[.int .i64 r.sess, .int .i64 r.snap, .bool r.strict, .slice R nr cr, .slice W nw cw] 25)) (w.heap.size + 1) rfl _ _ 26 25 _ 72 rfl Try.underlying26 info25 rfl (by decide) (by decide) rfl rfl ?c1 ?c2 ?c3 ?c4 ?c5 ?_; (case c1 => exact HO1.out); (case c2 => exact HS1.out); (case c3 => exact HB1.out); (case c4 => simp); (case c5 => rw [List.length_cons, List.length_nil, HLN.out]; omega); intro v1 w3 hO hB3 hq1 hq2; clear hq1 hq2)
  have hsl := hO.sl.mono (ok' := fun _ => True) fun _ _ => trivial
  obtain ⟨A1, cap1, rfl, -⟩ := hsl.form
  have HSL := Lib.hid hsl
  have hb3 := HBl.out.below hB3 (by omega)
  have HB3 := Lib.hid hb3
  have hW3 := HB.out.trans (hB3.mono (by omega))
  clear hO hsl hb3 hB3 HO1 HS1 HB1 hs
  refine (lights_calls ([r] ++ l) A1 _ cap1 _ HSL.out (fun x hx => by
    rcases List.mem_append.1 hx with h | h
    · simp at h; rw [h]; exact HRO.out
    · exact HO.out x h)).mono ?_
  rintro e w4 ⟨b, rfl, hb4⟩
  have hW4 := hW3.trans (hb4.mono hW3.size)
  have HB4 := Lib.hid (HB3.out.below hb4 HB3.out.lt)
  clear hb4 HSL
  cases b
  · go_wp2_with fail
    refine (lives_calls _).mono ?_
    rintro e w5 ⟨rfl, hb5⟩
    go_wp2
    go_ret
    exact ⟨rfl, hW4.trans (hb5.mono hW4.size)⟩
  · obtain ⟨c0, c1, c2, c3, c4⟩ := rec_cells _ _ _ _ _ _ _ _ _ HB4.out
    have hgl := HB4.out.lt
    have HW4 := Lib.hid hW4
    have h11 : Hid (∀ W', Below w.heap.size w W' → Calls Try.prog 11 #[.agg #[.int .i64 r.sess, .int .i64 r.snap, .bool r.strict, .slice R nr cr, .slice W nw cw], .slice A n cap] W' fun e w' => e = .returned (.int .i64 (clash r.writes l)) ∧ Below W'.heap.size W' w') := fun W' h => clash_calls _ _ _ R nr cr W nw cw r.writes l A n cap W' (hww.out.below h) (hwl.out.below h) HSM.out
    have h12 : Hid (∀ W', Below w.heap.size w W' → Calls Try.prog 12 #[.agg #[.int .i64 r.sess, .int .i64 r.snap, .bool r.strict, .slice R nr cr, .slice W nw cw], .slice A n cap] W' fun e w' => e = .returned (.int .i64 (clash r.writes l)) ∧ Below W'.heap.size W' w') := fun W' h => rclash_calls _ _ _ R nr cr W nw cw r.writes l A n cap W' (hww.out.below h) (hwl.out.below h)
    have h13 : Hid (∀ W', Below w.heap.size w W' → Calls Try.prog 13 #[.agg #[.int .i64 r.sess, .int .i64 r.snap, .bool r.strict, .slice R nr cr, .slice W nw cw], .slice A n cap] W' fun e w' => e = .returned (.int .i64 (stale r.reads l)) ∧ Below W'.heap.size W' w') := fun W' h => stale_calls _ _ _ R nr cr W nw cw r.reads l A n cap W' (hwr.out.below h) (hwl.out.below h) HSM.out
    have h14 : Hid (∀ W', Below w.heap.size w W' → Calls Try.prog 14 #[.agg #[.int .i64 r.sess, .int .i64 r.snap, .bool r.strict, .slice R nr cr, .slice W nw cw], .slice A n cap] W' fun e w' => e = .returned (.int .i64 (stale r.reads l)) ∧ Below W'.heap.size W' w') := fun W' h => rstale_calls _ _ _ R nr cr W nw cw r.reads l A n cap W' (hwr.out.below h) (hwl.out.below h)
    have h15 : Hid (∀ W', Below w.heap.size w W' → Calls Try.prog 15 #[.agg #[.int .i64 r.sess, .int .i64 r.snap, .bool r.strict, .slice R nr cr, .slice W nw cw], .slice A n cap] W' fun e w' => e = .returned (.int .i64 (mayV r l)) ∧ Below W'.heap.size W' w') := fun W' h => may_calls r R nr cr W nw cw l A n cap W' (hwr.out.below h) (hww.out.below h) (hwl.out.below h) HSM.out
    have h16 : Hid (∀ W', Below w.heap.size w W' → Calls Try.prog 16 #[.agg #[.int .i64 r.sess, .int .i64 r.snap, .bool r.strict, .slice R nr cr, .slice W nw cw], .slice A n cap] W' fun e w' => e = .returned (.int .i64 (mayV r l)) ∧ Below W'.heap.size W' w') := fun W' h => rmay_calls r R nr cr W nw cw l A n cap W' (hwr.out.below h) (hww.out.below h) (hwl.out.below h)
    generalize clash r.writes l = z1 at *
    generalize stale r.reads l = z2 at *
    generalize mayV r l = z3 at *
    clear hW4
    go_wp2_with fail
    refine wp_region_later (by kernel_rfl) (by kernel_rfl) ?_
    repeat (go_big_quiet_step (first
      | (go_at_call 10; exact calls_later (lives_calls _))
      | (go_at_call 11; exact calls_later (h11.out _ (later_from HW4.out HW4.out.size _)))
      | (go_at_call 12; exact calls_later (h12.out _ (later_from HW4.out HW4.out.size _)))
      | (go_at_call 13; exact calls_later (h13.out _ (later_from HW4.out HW4.out.size _)))
      | (go_at_call 14; exact calls_later (h14.out _ (later_from HW4.out HW4.out.size _)))
      | (go_at_call 15; exact calls_later (h15.out _ (later_from HW4.out HW4.out.size _)))
      | (go_at_call 16; exact calls_later (h16.out _ (later_from HW4.out HW4.out.size _)))))
    refine wpQuiet_nil ?_
    rintro _ ⟨e, rfl⟩
    have hb5 := later_from HW4.out HW4.out.size e
    generalize later _ e = w5 at *
    go_wp2
    go_ret
    exact ⟨rfl, hb5⟩
end Go.Proofs.Ytlbcckdbpgofmaa
