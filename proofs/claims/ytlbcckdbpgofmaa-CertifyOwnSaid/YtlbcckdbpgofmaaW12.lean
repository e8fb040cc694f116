import Derived.Test.YtlbcckdbpgofmaaW11
/-! CertifySplits. -/
namespace Go.Proofs.Ytlbcckdbpgofmaa
open Go.RowKit Go.Op

theorem mayNot_any (r : Rec) (l : List Rec) : mayNot r l = ((l.any fun o => r.writes.any fun p => wrote o.writes p.key) || (r.strict && l.any fun o => r.reads.any fun x => touches o.writes x)) := by
  unfold mayNot clash stale
  rw [idx_any, idx_any]
theorem mayNot_split (r : Rec) (l : List Rec) (k : Nat) : mayNot r l = (mayNot r (l.take k) || mayNot r (l.drop k)) := by
  have e : ∀ (P : Rec → Bool), l.any P = ((l.take k).any P || (l.drop k).any P) := fun P => by rw [← List.any_append, List.take_append_drop]
  rw [mayNot_any, mayNot_any, mayNot_any, e, e fun o => r.reads.any fun x => touches o.writes x]
  generalize ((l.take k).any fun o => r.writes.any fun p => wrote o.writes p.key) = a
  generalize ((l.drop k).any fun o => r.writes.any fun p => wrote o.writes p.key) = b
  generalize ((l.take k).any fun o => r.reads.any fun x => touches o.writes x) = c
  generalize ((l.drop k).any fun o => r.reads.any fun x => touches o.writes x) = d
  generalize r.strict = s
  cases a <;> cases b <;> cases c <;> cases d <;> cases s <;> rfl
/-- A slice cut off at its front, wherever it lies. -/
theorem sl_from {α : Type} {t : Ty α} {w : World} {ok : Nat → Prop} {A : Option Addr} {n cap : Nat} {l : List α} (h : Sl t w ok (.slice A n cap) l) {k : Nat} (hk : k ≤ n) (hs : 0 < t.sz) :
    ∃ A', A' = (if cap = k then A else A.map (·.add (k * t.sz))) ∧ Sl t w ok (.slice A' (n - k) (cap - k)) (l.drop k) := by
  obtain ⟨hln, hcap, hm⟩ := h.length
  refine ⟨_, rfl, ?_⟩
  by_cases hc : cap = k
  · rw [if_pos hc]
    have e1 : l.drop k = [] := List.drop_of_length_le (by omega)
    rw [e1, show n - k = 0 by omega]
    obtain ⟨A', cap', cs, e, h1, h2, h3, h4⟩ := h
    injection e with e1 e2 e3
    exact ⟨A, cap - k, [], rfl, Nat.zero_le _, ⟨by omega, fun h => by have := h2.2 (by rw [← e1]; exact h); omega⟩, rfl, .inl rfl⟩
  · rw [if_neg hc]
    obtain ⟨A', cap', cs, e, h1, h2, h3, h4⟩ := id h
    injection e with e1 e2 e3
    subst e1 e2 e3
    rcases h4 with h4 | ⟨b, off, rfl, hb, hcell⟩
    · have hl0 := h3.len
      rw [h4, List.length_nil] at hl0
      have h0 : l.length = 0 := by
        rcases Nat.eq_zero_or_pos l.length with h | h
        · exact h
        · have := Nat.mul_pos h hs; omega
      rw [show l.drop k = [] from List.drop_of_length_le (by omega), show l.length - k = 0 by omega]
      exact ⟨_, cap - k, [], rfl, Nat.zero_le _, ⟨by omega, fun h => by have := h2.2 (by simpa using h); omega⟩, rfl, .inl rfl⟩
    · have h5 := h.drop (k := k) hk
      have e4 : (some (⟨b, off, .none⟩ : Addr)).map (·.add (k * t.sz)) = some ⟨b, off + k * t.sz, .none⟩ := by simp [Addr.add]
      rw [e4]; exact h5

set_option maxHeartbeats 4000000 in
theorem splits_calls (r : Rec) (R : Option Addr) (nr cr : Nat) (W : Option Addr) (nw cw : Nat) (l : List Rec) (A : Option Addr) (n cap : Nat) (u : Int) (w : World) (hr : Sl tRead w (fun _ => True) (.slice R nr cr) r.reads) (hw : Sl tPair w (fun _ => True) (.slice W nw cw) r.writes) (hl : Sl tRec w (fun _ => True) (.slice A n cap) l) (hro : RecOk r) (ho : ∀ x ∈ l, RecOk x) (hn : n ≤ 1954687338211) (hu0 : 0 ≤ u) (hu1 : u < 18446744073709551616) :
    Calls Try.prog 4 #[.agg #[.int .i64 r.sess, .int .i64 r.snap, .bool r.strict, .slice R nr cr, .slice W nw cw], .slice A n cap, .int .u64 u] w fun e w' => e = .returned (.bool true) ∧ Below w.heap.size w w' := by
  have hs : Small l := fun o h => by obtain ⟨_, _, h3, h4⟩ := ho o h; omega
  have hB0 := Blk.new w #[.int .i64 r.sess, .int .i64 r.snap, .bool r.strict, .slice R nr cr, .slice W nw cw] 25
  have hb0 : Below w.heap.size w (w.alloc (.cells #[.int .i64 r.sess, .int .i64 r.snap, .bool r.strict, .slice R nr cr, .slice W nw cw] 25)) := (Below.refl _ _).alloc (Nat.le_refl _) _
  have hr0 := Lib.hid (hr.below hb0)
  have hw0 := Lib.hid (hw.below hb0)
  have hl0 := Lib.hid (hl.below hb0)
  have hz : (w.alloc (.cells #[.int .i64 r.sess, .int .i64 r.snap, .bool r.strict, .slice R nr cr, .slice W nw cw] 25)).heap.size = w.heap.size + 1 := by simp
  have HO := Lib.hid ho
  have HRO := Lib.hid hro
  have HLN := Lib.hid hl.length.1
  have HBl := Lib.hid hB0
  have HB := Lib.hid hb0
  have HZ := Lib.hid hz
  have hbb : Below w.heap.size w ((w.alloc (.cells #[.int .i64 r.sess, .int .i64 r.snap, .bool r.strict, .slice R nr cr, .slice W nw cw] 25)).alloc (.cells #[.int .i64 r.sess, .int .i64 r.snap, .bool r.strict, .slice R nr cr, .slice W nw cw] 25)) := hb0.alloc hb0.size _
  have hwr := Lib.hid hr
  have hww := Lib.hid hw
  have hwl := Lib.hid hl
  have HSM := Lib.hid hs
  have HO1 : Hid (Own tRec ((w.alloc (.cells #[.int .i64 r.sess, .int .i64 r.snap, .bool r.strict, .slice R nr cr, .slice W nw cw] 25)).alloc (.cells #[.int .i64 r.sess, .int .i64 r.snap, .bool r.strict, .slice R nr cr, .slice W nw cw] 25)) (w.heap.size + 1) 25 (fun b => b < w.heap.size) (.slice (some ⟨w.heap.size + 1, 0, none⟩) 1 1) [r]) := by
    have hB1 := Blk.new (w.alloc (.cells #[.int .i64 r.sess, .int .i64 r.snap, .bool r.strict, .slice R nr cr, .slice W nw cw] 25)) #[.int .i64 r.sess, .int .i64 r.snap, .bool r.strict, .slice R nr cr, .slice W nw cw] 25
    rw [hz] at hB1
    refine Own.oneBlk (cs := [.int .i64 r.sess, .int .i64 r.snap, .bool r.strict, .slice R nr cr, .slice W nw cw]) hB1 (rec_mk ?_ ?_) (Nat.le_refl _)
    · exact (hr.inb.below (hbb.mono (Nat.le_refl _))).mono fun b h => ⟨h.2, by omega⟩
    · exact (hw.inb.below (hbb.mono (Nat.le_refl _))).mono fun b h => ⟨h.2, by omega⟩
  have HS1 : Hid (SlX tRec ((w.alloc (.cells #[.int .i64 r.sess, .int .i64 r.snap, .bool r.strict, .slice R nr cr, .slice W nw cw] 25)).alloc (.cells #[.int .i64 r.sess, .int .i64 r.snap, .bool r.strict, .slice R nr cr, .slice W nw cw] 25)) (fun b => b < w.heap.size ∧ (Value.slice (some ⟨w.heap.size + 1, 0, none⟩) 1 1).ownBlock ≠ some b) (.slice A n cap) l) := by
    refine ((hl.inb.below (hbb.mono (Nat.le_refl _))).mono fun b h => ⟨h.2, ?_⟩).x
    simp [Value.ownBlock]; omega
  have HB1 : Hid (Below (w.heap.size + 1) (w.alloc (.cells #[.int .i64 r.sess, .int .i64 r.snap, .bool r.strict, .slice R nr cr, .slice W nw cw] 25)) ((w.alloc (.cells #[.int .i64 r.sess, .int .i64 r.snap, .bool r.strict, .slice R nr cr, .slice W nw cw] 25)).alloc (.cells #[.int .i64 r.sess, .int .i64 r.snap, .bool r.strict, .slice R nr cr, .slice W nw cw] 25))) := (Below.refl _ _).alloc (by rw [hz]; omega) _
  clear hr hw hl hb0 hB0 ho hro hz hbb
  go_enter Try.func4, Try.ntmps4
  go_wp2_with (at_builtin; refine wpList_appSl (o := ⟨some 13, _, _, _, _, _⟩) (t := tRec) (ok := fun b => b < w.heap.size) (l := [r]) (m := l) (w0 := w.alloc (.cells #[.int .i64 r.sess, .int .i64 r.snap, .bool r.strict, .slice R nr cr, .slice W nw cw] 25)) (w.heap.size + 1) rfl _ _ 26 25 _ 72 rfl Try.underlying26 info25 rfl (by decide) (by decide) rfl rfl ?c1 ?c2 ?c3 ?c4 ?c5 ?_; (case c1 => exact HO1.out); (case c2 => exact HS1.out); (case c3 => exact HB1.out); (case c4 => simp); (case c5 => rw [List.length_cons, List.length_nil, HLN.out]; omega); intro v1 w3 hO hB3 hq1 hq2; clear hq1 hq2)
  have hsl := hO.sl.mono (ok' := fun _ => True) fun _ _ => trivial
  obtain ⟨A1, cap1, rfl, -⟩ := hsl.form
  have HSL := Lib.hid hsl
  have hb3 := HBl.out.below hB3 (by omega)
  have HB3 := Lib.hid hb3
  have hW3 := HB.out.trans (hB3.mono (by omega))
  clear hO hsl hb3 hB3 HO1 HS1 HB1 hs
  refine (lights_calls ([r] ++ l) A1 _ cap1 _ HSL.out (fun x hx => by
    rcases List.mem_append.1 hx with h | h
    · simp at h; rw [h]; exact HRO.out
    · exact HO.out x h)).mono ?_
  rintro e w4 ⟨b, rfl, hb4⟩
  have hW4 := hW3.trans (hb4.mono hW3.size)
  have HB4 := Lib.hid (HB3.out.below hb4 HB3.out.lt)
  clear hb4 HSL
  cases b
  · go_wp2_with fail
    refine (lives_calls _).mono ?_
    rintro e w5 ⟨rfl, hb5⟩
    go_wp2
    go_ret
    exact ⟨rfl, hW4.trans (hb5.mono hW4.size)⟩
  · obtain ⟨c0, c1, c2, c3, c4⟩ := rec_cells _ _ _ _ _ _ _ _ _ HB4.out
    have hgl := HB4.out.lt
    have HW4 := Lib.hid hW4
    have h15 : Hid (∀ (l' : List Rec) (A' : Option Addr) (n' c' : Nat) (W' : World), (∀ x ∈ l', x ∈ l) → Below w.heap.size w W' → Sl tRec W' (fun _ => True) (.slice A' n' c') l' → Calls Try.prog 15 #[.agg #[.int .i64 r.sess, .int .i64 r.snap, .bool r.strict, .slice R nr cr, .slice W nw cw], .slice A' n' c'] W' fun e w' => e = .returned (.int .i64 (mayV r l')) ∧ Below W'.heap.size W' w') :=
      fun l' A' n' c' W' hx h hs => may_calls r R nr cr W nw cw l' A' n' c' W' (hwr.out.below h) (hww.out.below h) hs (fun o ho => HSM.out o (hx o ho))
    go_wp2_with fail
    obtain ⟨k, hk, hkn⟩ : ∃ k : Nat, u % ((n : Int) + 1) = (k : Int) ∧ k ≤ n := ⟨(u % ((n : Int) + 1)).toNat, by have := Int.emod_nonneg u (show (n : Int) + 1 ≠ 0 by omega); omega, by have := Int.emod_lt_of_pos u (show 0 < (n : Int) + 1 by omega); omega⟩
    rw [hk, show wrap64 (k : Int) = (k : Int) by unfold wrap64; omega]
    obtain ⟨A2, hA2, hD⟩ := sl_from hwl.out hkn (by decide)
    have hT := hwl.out.take hkn
    have hlo : ∀ W' : World, (Instr.slice 26 (.slice A n cap) (some (.int .i64 (k : Int))) none none).run Try.prog W' = .ok (.slice A2 (n - k) (cap - k)) W' := fun W' => by
      rw [hA2]; exact run_slice_lo (sz := 5) Try.underlying26 (by kernel_rfl) A hkn W'
    have hhi : ∀ W' : World, (Instr.slice 26 (.slice A n cap) none (some (.int .i64 (k : Int))) none).run Try.prog W' = .ok (.slice A k cap) W' := fun W' =>
      run_slice_hi (sz := 5) Try.underlying26 (by kernel_rfl) A (by have := hwl.out.length.2.1; omega) W'
    have HD := Lib.hid hD
    have HT := Lib.hid hT
    have HV : Hid (mayNot r l = (mayNot r (l.take k) || mayNot r (l.drop k))) := mayNot_split r l k
    clear hk hA2 hD hT hu0 hu1 hW4
    refine wp_region_later (by kernel_rfl) (by kernel_rfl) ?_
    repeat (go_big_quiet_step (first
      | (go_at_call 15; exact calls_later (h15.out (l.take k) _ _ _ _ (fun x hx => List.mem_of_mem_take hx) (later_from HW4.out HW4.out.size _) (HT.out.below (later_from HW4.out HW4.out.size _))))
      | (go_at_call 15; exact calls_later (h15.out (l.drop k) _ _ _ _ (fun x hx => List.mem_of_mem_drop hx) (later_from HW4.out HW4.out.size _) (HD.out.below (later_from HW4.out HW4.out.size _))))))
    refine wpQuiet_nil ?_
    rintro _ ⟨e, rfl⟩
    have hb5 := later_from HW4.out HW4.out.size e
    have HB5 := Lib.hid (HB4.out.below (later_below e) HB4.out.lt)
    generalize later _ e = w5 at *
    have hc15 := Lib.hid (h15.out l A n cap w5 (fun x hx => hx) hb5 (hwl.out.below hb5))
    have he15 : Hid (∀ W', Below w.heap.size w W' → Calls Try.prog 15 #[.agg #[.int .i64 r.sess, .int .i64 r.snap, .bool r.strict, .slice R nr cr, .slice W nw cw], .slice none 0 0] W' fun e w' => e = .returned (.int .i64 0) ∧ Below W'.heap.size W' w') := fun W' h => by
      have := h15.out [] none 0 0 W' (fun x hx => by cases hx) h (Sl.nil _ _ _)
      rwa [show mayV r [] = 0 by simp [mayV, mayNot_any]] at this
    rw [show mayV r l = if (mayNot r (l.take k) || mayNot r (l.drop k)) then 10 else 0 by rw [← HV.out]; rfl] at hc15
    rw [show mayV r (l.take k) = if mayNot r (l.take k) then 10 else 0 from rfl, show mayV r (l.drop k) = if mayNot r (l.drop k) then 10 else 0 from rfl]
    clear HV h15 hlo hhi HD HT c0 c1 c2 c3 c4 hgl
    generalize mayNot r (l.take k) = a at *
    generalize mayNot r (l.drop k) = b at *
    obtain ⟨c0, c1, c2, c3, c4⟩ := rec_cells _ _ _ _ _ _ _ _ _ HB5.out
    have hgl := HB5.out.lt
    have HW5 := Lib.hid hb5
    clear hb5
    cases a <;> cases b
    all_goals
      simp only [if_true, if_false, Bool.or_true, Bool.or_false, Bool.false_eq_true] at hc15 ⊢
      go_wp2_with fail
      refine hc15.out.mono ?_
      rintro e w6 ⟨rfl, hb6⟩
      have hW6 := HW5.out.trans (hb6.mono HW5.out.size)
      have HB6 := Lib.hid (HB5.out.below hb6 HB5.out.lt)
      clear c0 c1 c2 c3 c4 hgl hb6
      obtain ⟨c0, c1, c2, c3, c4⟩ := rec_cells _ _ _ _ _ _ _ _ _ HB6.out
      have hgl := HB6.out.lt
      go_wp2_with fail
      refine (he15.out _ hW6).mono ?_
      rintro e w7 ⟨rfl, hb7⟩
      have hW7 := hW6.trans (hb7.mono hW6.size)
      clear hb7
      go_wp2_with fail
      refine (lives_calls _).mono ?_
      rintro e w8 ⟨rfl, hb8⟩
      go_wp2
      go_ret
      exact ⟨rfl, hW7.trans (hb8.mono hW7.size)⟩
end Go.Proofs.Ytlbcckdbpgofmaa
