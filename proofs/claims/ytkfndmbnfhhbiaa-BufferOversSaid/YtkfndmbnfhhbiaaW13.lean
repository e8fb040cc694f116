import Derived.Test.YtkfndmbnfhhbiaaW12
/-! The document's put. -/
namespace Go.Proofs.Ytkfndmbnfhhbiaa
open Go.RowKit Go.Op

theorem low_cons (x : Pair) (t : List Pair) (k : ByteArray) : low (x :: t) k = if klt x.key k then low t k + 1 else 0 := by
  unfold low
  rw [List.takeWhile_cons]
  cases klt x.key k <;> simp
theorem low_le (l : List Pair) (k : ByteArray) : low l k ≤ l.length := (List.takeWhile_prefix _).length_le
theorem low_drop {l : List Pair} {k : ByteArray} {j : Nat} {x : Pair} (hj : j + low (l.drop j) k = low l k) (hx : l[j]? = some x) :
    (klt x.key k = true → (j + 1) + low (l.drop (j + 1)) k = low l k) ∧ (klt x.key k = false → low l k = j) := by
  rw [drop_cons hx, low_cons] at hj
  constructor
  · intro h; rw [h, if_pos rfl] at hj; omega
  · intro h; rw [h] at hj; simp at hj; omega
/-- What stands where a key would. -/
theorem at_low {l : List Pair} (hr : Rising l) (k : ByteArray) : hasK l k = (match l[low l k]? with | some q => q.key.toList == k.toList | none => false) := by
  obtain ⟨A, B, e, hA, h1, h2⟩ := parts hr k
  have hg : l[low l k]? = B[0]? := by
    rw [← hA]; conv => lhs; rw [e]
    rw [List.getElem?_append_right (Nat.le_refl _)]; simp
  rw [hg]
  rcases h2 with ⟨h2, h3⟩ | ⟨h2, q, C, rfl, h3, h4⟩
  · rw [h2]
    cases B with
    | nil => rfl
    | cons q B => symm; show (q.key.toList == k.toList) = false; rw [beq_key]; simpa using (klt_ne (h3 q (by simp))).symm
  · rw [h2]; symm; show (q.key.toList == k.toList) = true; rw [beq_key, h3]; simp

set_option maxHeartbeats 8000000 in
set_option maxRecDepth 100000 in
theorem rputno_calls (rb : Nat) (l : List Pair) (p : Pair) (w : World) (h : RBuf w rb l) (hk : p.key.size ≤ 140737488351232) (hv : p.val.size ≤ 140737488351232) (n : Int)
    (hn : (p.key.size < 1 ∧ n = 2) ∨ (1 ≤ p.key.size ∧ 64 < p.key.size ∧ n = 2) ∨ (1 ≤ p.key.size ∧ p.key.size ≤ 64 ∧ 256 < p.val.size ∧ n = 12) ∨ (1 ≤ p.key.size ∧ p.key.size ≤ 64 ∧ p.val.size ≤ 256 ∧ hasK l p.key = false ∧ 64 ≤ l.length ∧ n = 13)) :
    Calls Try.prog 27 #[.pointer (some ⟨rb, 0, none⟩), .agg #[.string p.key, .string p.val, .bool p.dead]] w fun e w' => e = .returned (.int .i64 n) ∧ Below w.heap.size w w' := by
  obtain ⟨A, c, h1, h2, h3, h4⟩ := h
  obtain ⟨q, hq⟩ : ∃ q, l.length = q := ⟨_, rfl⟩
  rw [hq] at h1 h2 h4 hn
  obtain ⟨z, hz⟩ : ∃ z, w.heap.size = z := ⟨_, rfl⟩
  have HLN := Lib.hid hq
  have hcap := h2.length.2
  have HL := Lib.hid h2
  have HR := Lib.hid h3
  have HN := Lib.hid hn
  have hba := (Below.refl w.heap.size w).alloc (Nat.le_refl _) (.cells #[.string p.key, .string p.val, .bool p.dead] 52)
  have HB0 : Hid (Below z w (w.alloc (.cells #[.string p.key, .string p.val, .bool p.dead] 52))) := by rw [← hz]; exact hba
  have HP0 : Hid (Blk (w.alloc (.cells #[.string p.key, .string p.val, .bool p.dead] 52)) z #[.string p.key, .string p.val, .bool p.dead] 52) := by rw [← hz]; exact Blk.new _ _ _
  have HRB := Lib.hid h1
  have hrz : rb < z := by rw [← hz]; exact h1.lt
  have hlow := low_le l p.key
  rw [hq] at hlow
  have HAT := Lib.hid (at_low h3 p.key)
  obtain ⟨lo, hlo⟩ : ∃ lo, low l p.key = lo := ⟨_, rfl⟩
  have HLO := Lib.hid hlo
  rw [hlo] at hlow HAT
  clear h1 h2 h3 hn hba hq hlo
  go_enter Try.func27, Try.ntmps27
  go_wp2
  go_loopw [5] (fun i wr => ∃ j : Nat, i = .int .i64 j ∧ j ≤ lo ∧ Hid (Below z w wr) ∧ Hid (Blk wr z #[.string p.key, .string p.val, .bool p.dead] 52) ∧ Hid (j + low (l.drop j) p.key = low l p.key)) (fun i _ => q + 1 - (intOf i).toNat)
  case atStart => exact ⟨0, rfl, by omega, HB0, HP0, by show _ = _; simp⟩
  case round =>
    obtain ⟨j, rfl, hj, hB, hP, hLJ⟩ := hrel
    clear HB0 HP0
    have c0 := (HRB.out.below hB.out hrz).cell 0
    have y0 := hP.out.cell 0
    have y1 := hP.out.cell 1
    have y2 := hP.out.cell 2
    have hLW : Hid (Sl tPair wr (fun _ => True) (.slice A q c) l) := (HL.out.inb.step fun b hb => hB.out.block b (by have := hb.2; omega)).mono fun _ _ => trivial
    by_cases hjl : j = lo
    · subst hjl
      by_cases hjq : j < q
      · obtain ⟨x, hx⟩ := some_at (show j < l.length by rw [HLN.out]; exact hjq)
        obtain ⟨g, off, rfl, hg, x0, -, -⟩ := sl_pair hLW.out hx
        have hld := low_drop hLJ.out hx
        rw [HLO.out] at hld
        have hkx : klt x.key p.key = false := by
          cases hkx : klt x.key p.key
          · rfl
          · have := hld.1 hkx; omega
        have hat : hasK l p.key = (x.key.toList == p.key.toList) := by rw [HAT.out, hx]
        have HAX := Lib.hid hat
        unfold klt at hkx
        clear hld hx hat
        go_wp2
        go_quiet (fail)
        obtain ⟨W1, hW1⟩ : ∃ W1, wr.drewN nq = W1 := ⟨_, rfl⟩
        have hb1 : Below wr.heap.size wr W1 := by rw [← hW1]; exact below_drewN (Below.refl _ _) _
        have y0' := (hP.out.below hb1 hP.out.lt).cell 0
        have y1' := (hP.out.below hb1 hP.out.lt).cell 1
        have y2' := (hP.out.below hb1 hP.out.lt).cell 2
        have c0' := (HRB.out.below (hB.out.trans (hb1.mono (by have := hB.out.size; omega))) hrz).cell 0
        have HBE := Lib.hid (hB.out.trans (hb1.mono (by have := hB.out.size; omega)))
        have x0' := (hb1.cell hg).trans x0
        rw [hW1]
        clear hW1 y0 y1 y2 c0
        clear HAT
        rcases HN.out with ⟨g1, rfl⟩ | ⟨g1, g2, rfl⟩ | ⟨g1, g2, g3, rfl⟩ | ⟨g1, g2, g3, g4, g5, rfl⟩
        all_goals clear HN
        · go_wp2
          go_ret
          exact ⟨rfl, by first | exact HBE.out | (rw [hz]; exact HBE.out)⟩
        · go_wp2
          go_ret
          exact ⟨rfl, by first | exact HBE.out | (rw [hz]; exact HBE.out)⟩
        · go_wp2
          go_ret
          exact ⟨rfl, by first | exact HBE.out | (rw [hz]; exact HBE.out)⟩
        · rw [HAX.out] at g4
          go_wp2
          go_quiet (fail)
          have HB2 : Hid (Below w.heap.size w (W1.drewN nq)) := by rw [hz]; exact below_drewN HBE.out _
          have y0'' : (W1.drewN nq).cell? ⟨z, 0, none⟩ = _ := y0'
          have c0'' : (W1.drewN nq).cell? ⟨rb, 0, none⟩ = _ := c0'
          go_wp2
          go_ret
          exact ⟨rfl, HB2.out⟩
      · have hjq' : j = q := by omega
        subst hjq'
        have hat : hasK l p.key = false := by rw [HAT.out, List.getElem?_eq_none (by rw [HLN.out]; exact Nat.le_refl _)]
        have HAX := Lib.hid hat
        clear hat HAT
        go_wp2
        go_quiet (fail)
        obtain ⟨W1, hW1⟩ : ∃ W1, wr.drewN nq = W1 := ⟨_, rfl⟩
        have hb1 : Below wr.heap.size wr W1 := by rw [← hW1]; exact below_drewN (Below.refl _ _) _
        have y0' := (hP.out.below hb1 hP.out.lt).cell 0
        have y1' := (hP.out.below hb1 hP.out.lt).cell 1
        have c0' := (HRB.out.below (hB.out.trans (hb1.mono (by have := hB.out.size; omega))) hrz).cell 0
        have HBE := Lib.hid (hB.out.trans (hb1.mono (by have := hB.out.size; omega)))
        rw [hW1]
        clear hW1 y0 y1 y2 c0
        rcases HN.out with ⟨g1, rfl⟩ | ⟨g1, g2, rfl⟩ | ⟨g1, g2, g3, rfl⟩ | ⟨g1, g2, g3, g4, g5, rfl⟩
        all_goals clear HN
        · go_wp2
          go_ret
          exact ⟨rfl, by first | exact HBE.out | (rw [hz]; exact HBE.out)⟩
        · go_wp2
          go_ret
          exact ⟨rfl, by first | exact HBE.out | (rw [hz]; exact HBE.out)⟩
        · go_wp2
          go_ret
          exact ⟨rfl, by first | exact HBE.out | (rw [hz]; exact HBE.out)⟩
        · go_wp2
          go_quiet (fail)
          have HB2 : Hid (Below w.heap.size w (W1.drewN nq)) := by rw [hz]; exact below_drewN HBE.out _
          have c0'' : (W1.drewN nq).cell? ⟨rb, 0, none⟩ = _ := c0'
          go_wp2
          go_ret
          exact ⟨rfl, HB2.out⟩
    · have hjq : j < q := by omega
      obtain ⟨x, hx⟩ := some_at (show j < l.length by rw [HLN.out]; exact hjq)
      obtain ⟨g, off, rfl, hg, x0, -, -⟩ := sl_pair hLW.out hx
      have hld := low_drop hLJ.out hx
      cases hkx : klt x.key p.key
      · have := hld.2 hkx; rw [HLO.out] at this; exact absurd this.symm hjl
      · have HLD := Lib.hid (hld.1 hkx)
        unfold klt at hkx
        clear hld hx
        go_wp2
        go_quiet (fail)
        have HBn := Lib.hid (below_drewN hB.out nq)
        have HPn : Hid (Blk (wr.drewN nq) z #[.string p.key, .string p.val, .bool p.dead] 52) := hP.out.drewN _
        go_wp2
        go_roundw
        case rel => exact ⟨j + 1, by go_num, by omega, HBn, HPn, HLD⟩
        case measure => simp [intOf]; omega
end Go.Proofs.Ytkfndmbnfhhbiaa
