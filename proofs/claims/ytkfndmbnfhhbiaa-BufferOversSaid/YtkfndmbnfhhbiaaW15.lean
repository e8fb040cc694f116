import Derived.Test.YtkfndmbnfhhbiaaW14
/-! The document's put of a new key. -/
namespace Go.Proofs.Ytkfndmbnfhhbiaa
open Go.RowKit Go.Op

theorem Own.one {w : World} {base g : Nat} {ok : Nat → Prop} {p : Pair} (h : Blk w g #[.string p.key, .string p.val, .bool p.dead] 52) (hb : base ≤ g) : Own tPair w base 52 ok (.slice (some ⟨g, 0, none⟩) 1 1) [p] :=
  ⟨p.enc, ⟨rfl, .inr ⟨g, 1, _, rfl, hb, h, Nat.le_refl _, by simp [maxLen], rfl, rfl⟩⟩, Cells.one rfl⟩
theorem step_appGrow {α : Type} {t : Ty α} {P : Program} {W : World} {o : Oper} {ops : Array Oper} {a : Act} {Q : Exit → Act → World → Prop} {ok : Nat → Prop} {l m : List α} {K : Act → World → Prop} {E : Prop} (hgd : o.guard = none) (s x : Operand) (T e : TypeId) (z : Value) (bytes : Nat)
    (ho : o.op = .call { callee := .builtin .append, args := #[s, x], argTypes := #[T, T] })
    (ht : P.underlying T = some (.slice e)) (hinfo : (P.info? e).map (fun i => (i.zero, i.size, i.bytes)) = some (some z, t.sz, bytes)) (hzs : z.cells.size = t.sz) (hsz : 0 < t.sz) (hb0 : 0 < bytes)
    {A B : Option Addr} {n k c : Nat} (hs : a.eval s = .slice A n n) (hx : a.eval x = .slice B k c) (hl : Sl t W ok (.slice A n n) l) (hm : Sl t W ok (.slice B k c) m) (hk : 0 < k) (hlen : (n + k) * bytes ≤ 140737488355328)
    (h : ∀ v1 w1, Own t w1 W.heap.size e ok v1 (l ++ m) → Below W.heap.size W w1 → K (a.put o.dst v1) w1) :
    if Region.wanted o (yielded ops a.tmps) = true then Oper.wp P o a W K Q else E := by
  have hw : Region.wanted o (yielded ops a.tmps) = true := by simp [Region.wanted, hgd]
  rw [if_pos hw]
  exact wp_appGrow s x T e z bytes ho ht hinfo hzs hsz hb0 hs hx hl hm hk hlen h

theorem run_slice_mid {P : Program} {T e : TypeId} {sz : Nat} (hu : P.underlying T = some (.slice e)) (hs : (P.info? e).map (·.size) = some sz) (A : Option Addr) {n cap k : Nat} (hk : k ≤ cap) (W : World) :
    (Instr.slice T (.slice A n cap) none (some (.int .i64 (k : Int))) (some (.int .i64 (k : Int)))).run P W = .ok (.slice A k k) W := by
  have hb : (Instr.sliceBounds true n cap none (some (.int .i64 (k : Int))) (some (.int .i64 (k : Int)))).run P W = .ok (0, k, k) W := by
    simp [Instr.sliceBounds, run_sliceBound, hk]
  simp only [Instr.slice]
  simp [run_underlying hu, hb, info_size hs]
  cases A <;> simp [Addr.add]
theorem Sl.clip {α : Type} {t : Ty α} {w : World} {ok : Nat → Prop} {A : Option Addr} {n cap k : Nat} {l : List α} (h : Sl t w ok (.slice A n cap) l) (hk : k ≤ n) : Sl t w ok (.slice A k k) (l.take k) := by
  have h1 := h.take hk
  have hl := h.length
  obtain ⟨A', c', cs, e, k1, k2, k3, k4⟩ := h1
  injection e with e1 e2 e3
  subst e1 e3
  exact ⟨A, k, cs, by rw [← e2], by omega, ⟨by omega, fun ha => by have := k2.2 ha; omega⟩, k3, k4⟩

theorem rput_done2 (rb z n c : Nat) (A : Option Addr) (l : List Pair) (p : Pair) (w w4 : World) (hz : w.heap.size = z) (hB : Below z w w4) (hrb : ∃ v, Blk w4 rb #[v] 33) (_hrz : rb < z)
    (hS : Sl tPair w4 (fun b => rb < b) (.slice A n c) (put l p)) (hr : Rising l) (h4 : (put l p).length ≤ 64) :
    Ending.returned (.int .i64 0) = Ending.returned (Value.int .i64 0) ∧ RBuf (w4.setCell ⟨rb, 0, none⟩ (.slice A n c)) rb (put l p) ∧ w.grownBy (w4.setCell ⟨rb, 0, none⟩ (.slice A n c)) (some rb) := by
  obtain ⟨v, hrb⟩ := hrb
  have hl := hS.length.1
  refine ⟨rfl, ⟨A, c, ?_, ?_, put_rising hr p, h4⟩, ⟨hB.os, hB.tape, hB.output, ?_, ?_⟩⟩
  · rw [hl]; exact hrb.set 0 _
  · rw [hl]
    exact hS.step fun b hb => Below.heap_setCell w4 _ _ b (by show b ≠ rb; omega)
  · rw [World.size_setCell]; exact hB.size
  · intro k hk hne
    exact (Below.heap_setCell w4 _ _ k (by intro e; exact hne (by rw [e]))).trans (hB.block k (by omega))

set_option maxHeartbeats 8000000 in
set_option maxRecDepth 100000 in
theorem rputnew_calls (rb : Nat) (l : List Pair) (p : Pair) (w : World) (h : RBuf w rb l) (hk : p.key.size ≤ 140737488351232) (hv : p.val.size ≤ 140737488351232)
    (g1 : 1 ≤ p.key.size) (g2 : p.key.size ≤ 64) (g3 : p.val.size ≤ 256) (g4 : hasK l p.key = false) (g5 : l.length < 64) :
    Calls Try.prog 27 #[.pointer (some ⟨rb, 0, none⟩), .agg #[.string p.key, .string p.val, .bool p.dead]] w fun e w' => e = .returned (.int .i64 0) ∧ RBuf w' rb (put l p) ∧ w.grownBy w' (some rb) := by
  obtain ⟨A, c, h1, h2, h3, h4⟩ := h
  obtain ⟨q, hq⟩ : ∃ q, l.length = q := ⟨_, rfl⟩
  rw [hq] at h1 h2 h4 g5
  obtain ⟨z, hz⟩ : ∃ z, w.heap.size = z := ⟨_, rfl⟩
  have HLN := Lib.hid hq
  have hcap := h2.length.2
  have HL := Lib.hid h2
  have HR := Lib.hid h3
  have G4 := Lib.hid g4
  have hput := put_not g4
  have hba := (Below.refl w.heap.size w).alloc (Nat.le_refl _) (.cells #[.string p.key, .string p.val, .bool p.dead] 52)
  have HB0 : Hid (Below z w (w.alloc (.cells #[.string p.key, .string p.val, .bool p.dead] 52))) := by rw [← hz]; exact hba
  have HP0 : Hid (Blk (w.alloc (.cells #[.string p.key, .string p.val, .bool p.dead] 52)) z #[.string p.key, .string p.val, .bool p.dead] 52) := by rw [← hz]; exact Blk.new _ _ _
  have HRB := Lib.hid h1
  have hrz : rb < z := by rw [← hz]; exact h1.lt
  have hlow := low_le l p.key
  rw [hq] at hlow
  have HAT := Lib.hid (at_low h3 p.key)
  obtain ⟨lo, hlo⟩ : ∃ lo, low l p.key = lo := ⟨_, rfl⟩
  have HLO := Lib.hid hlo
  rw [hlo] at hlow HAT hput
  have HPUT := Lib.hid hput
  clear hput
  clear g4 h1 h2 h3 hba hq hlo
  go_enter Try.func27, Try.ntmps27
  go_wp2
  go_loopw [5] (fun i wr => ∃ j : Nat, i = .int .i64 j ∧ j ≤ lo ∧ Hid (Below z w wr) ∧ Hid (Blk wr z #[.string p.key, .string p.val, .bool p.dead] 52) ∧ Hid (j + low (l.drop j) p.key = low l p.key)) (fun i _ => q + 1 - (intOf i).toNat)
  case atStart => exact ⟨0, rfl, by omega, HB0, HP0, by show _ = _; simp⟩
  case round =>
    obtain ⟨j, rfl, hj, hB, hP, hLJ⟩ := hrel
    clear HB0 HP0
    have c0 := (HRB.out.below hB.out hrz).cell 0
    have y0 := hP.out.cell 0
    have y1 := hP.out.cell 1
    have y2 := hP.out.cell 2
    have hLW : Hid (Sl tPair wr (fun _ => True) (.slice A q c) l) := (HL.out.inb.step fun b hb => hB.out.block b (by have := hb.2; omega)).mono fun _ _ => trivial
    by_cases hjl : j = lo
    · subst hjl
      by_cases hjq : j < q
      · obtain ⟨x, hx⟩ := some_at (show j < l.length by rw [HLN.out]; exact hjq)
        obtain ⟨g, off, rfl, hg, x0, -, -⟩ := sl_pair hLW.out hx
        have hld := low_drop hLJ.out hx
        rw [HLO.out] at hld
        have hkx : klt x.key p.key = false := by
          cases hkx : klt x.key p.key
          · rfl
          · have := hld.1 hkx; omega
        have hat : hasK l p.key = (x.key.toList == p.key.toList) := by rw [HAT.out, hx]
        have HAX := Lib.hid hat
        unfold klt at hkx
        clear hld hx hat
        go_wp2
        go_quiet (fail)
        obtain ⟨W1, hW1⟩ : ∃ W1, wr.drewN nq = W1 := ⟨_, rfl⟩
        have hb1 : Below wr.heap.size wr W1 := by rw [← hW1]; exact below_drewN (Below.refl _ _) _
        have y0' := (hP.out.below hb1 hP.out.lt).cell 0
        have y1' := (hP.out.below hb1 hP.out.lt).cell 1
        have y2' := (hP.out.below hb1 hP.out.lt).cell 2
        have c0' := (HRB.out.below (hB.out.trans (hb1.mono (by have := hB.out.size; omega))) hrz).cell 0
        have HBE := Lib.hid (hB.out.trans (hb1.mono (by have := hB.out.size; omega)))
        have x0' := (hb1.cell hg).trans x0
        rw [hW1]
        clear hW1 y0 y1 y2 c0
        clear HAT
        have g4 := HAX.out.symm.trans G4.out
        go_wp2
        go_quiet (fail)
        obtain ⟨W2, hW2⟩ : ∃ W2, W1.drewN nq = W2 := ⟨_, rfl⟩
        have HB2 : Hid (Below z w W2) := by rw [← hW2]; exact below_drewN HBE.out _
        have y0'' : W2.cell? ⟨z, 0, none⟩ = some (.string p.key) := by rw [← hW2]; exact y0'
        have y1'' : W2.cell? ⟨z, 1, none⟩ = some (.string p.val) := by rw [← hW2]; exact y1'
        have y2'' : W2.cell? ⟨z, 2, none⟩ = some (.bool p.dead) := by rw [← hW2]; exact y2'
        have c0'' : W2.cell? ⟨rb, 0, none⟩ = some (.slice (some ⟨g, off, none⟩) q c) := by rw [← hW2]; exact c0'
        have hsz : wr.heap.size ≤ W2.heap.size := by rw [← hW2]; exact hb1.size
        have hzW : z < W2.heap.size := Nat.lt_of_lt_of_le hP.out.lt hsz
        have hrW : rb < W2.heap.size := Nat.lt_trans hrz hzW
        have hgW : g < W2.heap.size := Nat.lt_of_lt_of_le hg hsz
        have HLS : Hid (Sl tPair W2 (fun b => rb < b) (.slice (some ⟨g, off, none⟩) q c) l) := by
          rw [← hW2]; exact ((HL.out.inb.step fun b hb => hB.out.block b (by have := hb.2; omega)).mono fun _ h => h.1).below (below_drewN hb1 _)
        rw [hW2]
        clear hW2 y0' y1' y2' c0' x0'
        go_wp2
        have hmid := fun W' => run_slice_mid (P := Try.prog) (sz := 3) Try.underlying23 (by kernel_rfl) (some ⟨g, off, none⟩) (n := q) (cap := c) (k := j) (by omega) W'
        obtain ⟨off2, c2, hfrom, hSF⟩ := run_slice_from (P := Try.prog) Try.underlying23 (by kernel_rfl) HLS.out (k := j) (by omega)
        have HSF := Lib.hid hSF
        clear hSF
        have hbW : Below W2.heap.size W2 W2 := Below.refl _ _
        go_region_law (first
          | (refine step_appSl (o := ⟨some 103, _, _, _, _, _⟩) (t := tPair) (ok := fun _ => False) (l := [p]) (m := l.drop j) (w0 := W2) W2.heap.size rfl _ _ 23 52 _ 40 rfl Try.underlying23 info52 rfl (by decide) (by decide) rfl rfl ?_ ?_ ?_ ?_ ?_ ?_
             · refine Own.one (g := W2.heap.size) ?_ (by omega); (simp only [Blk, alloc_heap, drew_heap]; simp; done)
             · refine sl_px (HSF.out.below ?_) _; repeat (first | with_reducible exact hbW | apply Below.drew | refine Below.alloc ?_ (by first | omega | (simp; omega)) _)
             · repeat (first | with_reducible exact hbW | apply Below.drew | refine Below.alloc ?_ (by first | omega | (simp; omega)) _)
             · simp
             · simp; have := HLN.out; omega
             intro v3 w3 hO3 hB3 hG3 _
             obtain ⟨A3, c3, rfl, -⟩ := hO3.form
             obtain ⟨k3, hk3⟩ : ∃ k, ([p] ++ l.drop j).length = k := ⟨_, rfl⟩
             rw [hk3] at hO3 ⊢
             have hc3 := (hB3.cell hrW).trans c0''
             have hf3 : w3.frozen? ⟨rb, 0, none⟩ = false := (HRB.out.below (HB2.out.trans (hB3.mono (by omega))) hrz).frozen 0
             have HK3 := Lib.hid hk3
             have HO3 := Lib.hid hO3
             have HB3 := Lib.hid hB3
             clear hk3 hO3 hB3 hG3)
          | (refine step_appGrow (o := ⟨some 104, _, _, _, _, _⟩) (t := tPair) (ok := fun b => rb < b) (l := l.take j) (m := [p] ++ l.drop j) rfl _ _ 23 52 _ 40 rfl Try.underlying23 info52 rfl (by decide) (by decide) rfl rfl (HLS.out.clip (by omega) |>.below HB3.out) ?_ ?_ ?_ ?_
             · exact HO3.out.sl.mono fun b hb => by rcases hb with hb | hb; exact hb.elim; omega
             · have := HK3.out; simp at this; omega
             · have := HK3.out; simp at this; have := HLN.out; omega
             intro v4 w4 hO4 hB4
             obtain ⟨A4, c4, rfl, -⟩ := hO4.form
             have hc4 := (hB4.cell (Nat.lt_of_lt_of_le hrW HB3.out.size)).trans hc3
             have hf4 : w4.frozen? ⟨rb, 0, none⟩ = false := (HRB.out.below (HB2.out.trans ((HB3.out.trans (hB4.mono HB3.out.size)).mono (by omega))) hrz).frozen 0
             obtain ⟨k4, hk4⟩ : ∃ k, (l.take j ++ ([p] ++ l.drop j)).length = k := ⟨_, rfl⟩
             rw [hk4] at hO4 ⊢
             have HK4 := Lib.hid hk4
             have HO4 := Lib.hid hO4
             have HB4 := Lib.hid hB4
             clear hO4 hB4 hk4))
        all_goals
          go_wp2
          go_ret
          refine rput_done2 rb z k4 c4 A4 l p w w4 hz (HB2.out.trans ((HB3.out.trans (HB4.out.mono HB3.out.size)).mono (by omega))) ⟨_, HRB.out.below (HB2.out.trans ((HB3.out.trans (HB4.out.mono HB3.out.size)).mono (by omega))) hrz⟩ hrz ?_ HR.out ?_
          · rw [HPUT.out]
            exact HO4.out.sl.mono fun b hb => by have := HB3.out.size; rcases hb with hb | hb <;> omega
          · rw [HPUT.out, HK4.out]
            have := HK4.out
            simp at this
            have := HLN.out
            omega
      · have hjq' : j = q := by omega
        subst hjq'
        have hat : hasK l p.key = false := by rw [HAT.out, List.getElem?_eq_none (by rw [HLN.out]; exact Nat.le_refl _)]
        have HAX := Lib.hid hat
        clear hat HAT
        go_wp2
        go_quiet (fail)
        obtain ⟨W1, hW1⟩ : ∃ W1, wr.drewN nq = W1 := ⟨_, rfl⟩
        have hb1 : Below wr.heap.size wr W1 := by rw [← hW1]; exact below_drewN (Below.refl _ _) _
        have y0' := (hP.out.below hb1 hP.out.lt).cell 0
        have y1' := (hP.out.below hb1 hP.out.lt).cell 1
        have y2' := (hP.out.below hb1 hP.out.lt).cell 2
        have c0' := (HRB.out.below (hB.out.trans (hb1.mono (by have := hB.out.size; omega))) hrz).cell 0
        have HBE := Lib.hid (hB.out.trans (hb1.mono (by have := hB.out.size; omega)))
        rw [hW1]
        clear hW1 y0 y1 y2 c0
        go_wp2
        go_quiet (fail)
        obtain ⟨W2, hW2⟩ : ∃ W2, W1.drewN nq = W2 := ⟨_, rfl⟩
        have HB2 : Hid (Below z w W2) := by rw [← hW2]; exact below_drewN HBE.out _
        have y0'' : W2.cell? ⟨z, 0, none⟩ = some (.string p.key) := by rw [← hW2]; exact y0'
        have y1'' : W2.cell? ⟨z, 1, none⟩ = some (.string p.val) := by rw [← hW2]; exact y1'
        have y2'' : W2.cell? ⟨z, 2, none⟩ = some (.bool p.dead) := by rw [← hW2]; exact y2'
        have c0'' : W2.cell? ⟨rb, 0, none⟩ = some (.slice A j c) := by rw [← hW2]; exact c0'
        have hsz : wr.heap.size ≤ W2.heap.size := by rw [← hW2]; exact hb1.size
        have hzW : z < W2.heap.size := Nat.lt_of_lt_of_le hP.out.lt hsz
        have hrW : rb < W2.heap.size := Nat.lt_trans hrz hzW
        have HLS : Hid (Sl tPair W2 (fun b => rb < b) (.slice A j c) l) := by
          rw [← hW2]; exact ((HL.out.inb.step fun b hb => hB.out.block b (by have := hb.2; omega)).mono fun _ h => h.1).below (below_drewN hb1 _)
        rw [hW2]
        clear hW2 y0' y1' y2' c0'
        go_wp2
        have hmid := fun W' => run_slice_mid (P := Try.prog) (sz := 3) Try.underlying23 (by kernel_rfl) A (n := j) (cap := c) (k := j) (by omega) W'
        have hcn : A = none → c = 0 := by
          obtain ⟨A', c', e, _, _, h⟩ := HLS.out.form
          injection e with e1 e2 e3
          subst e1 e3
          exact h
        obtain ⟨B, c2, hfrom, hSF⟩ : ∃ B c2, (∀ W, (Instr.slice 23 (.slice A j c) (some (.int .i64 (j : Int))) none none).run Try.prog W = .ok (.slice B (j - j) c2) W) ∧ Sl tPair W2 (fun b => rb < b) (.slice B 0 c2) (l.drop j) :=
          ⟨if c = j then A else A.map (·.add (j * 3)), c - j, fun W => run_slice_lo Try.underlying23 (by kernel_rfl) A (Nat.le_refl _) W, by
            rw [List.drop_of_length_le (by rw [HLN.out]; exact Nat.le_refl _)]
            refine Sl.none _ _ _ _ _ (by omega) fun h => ?_
            by_cases e : c = j
            · omega
            · rw [if_neg e] at h
              have := hcn (by cases A with | none => rfl | some ad => cases h)
              omega⟩
        rw [Nat.sub_self] at hfrom
        have HSF := Lib.hid hSF
        clear hSF hcn
        have hbW : Below W2.heap.size W2 W2 := Below.refl _ _
        go_region_law (first
          | (refine step_appSl (o := ⟨some 103, _, _, _, _, _⟩) (t := tPair) (ok := fun _ => False) (l := [p]) (m := l.drop j) (w0 := W2) W2.heap.size rfl _ _ 23 52 _ 40 rfl Try.underlying23 info52 rfl (by decide) (by decide) rfl rfl ?_ ?_ ?_ ?_ ?_ ?_
             · refine Own.one (g := W2.heap.size) ?_ (by omega); (simp only [Blk, alloc_heap, drew_heap]; simp; done)
             · refine sl_px (HSF.out.below ?_) _; repeat (first | with_reducible exact hbW | apply Below.drew | refine Below.alloc ?_ (by first | omega | (simp; omega)) _)
             · repeat (first | with_reducible exact hbW | apply Below.drew | refine Below.alloc ?_ (by first | omega | (simp; omega)) _)
             · simp
             · simp; have := HLN.out; omega
             intro v3 w3 hO3 hB3 hG3 _
             obtain ⟨A3, c3, rfl, -⟩ := hO3.form
             obtain ⟨k3, hk3⟩ : ∃ k, ([p] ++ l.drop j).length = k := ⟨_, rfl⟩
             rw [hk3] at hO3 ⊢
             have hc3 := (hB3.cell hrW).trans c0''
             have hf3 : w3.frozen? ⟨rb, 0, none⟩ = false := (HRB.out.below (HB2.out.trans (hB3.mono (by omega))) hrz).frozen 0
             have HK3 := Lib.hid hk3
             have HO3 := Lib.hid hO3
             have HB3 := Lib.hid hB3
             clear hk3 hO3 hB3 hG3)
          | (refine step_appGrow (o := ⟨some 104, _, _, _, _, _⟩) (t := tPair) (ok := fun b => rb < b) (l := l.take j) (m := [p] ++ l.drop j) rfl _ _ 23 52 _ 40 rfl Try.underlying23 info52 rfl (by decide) (by decide) rfl rfl (HLS.out.clip (by omega) |>.below HB3.out) ?_ ?_ ?_ ?_
             · exact HO3.out.sl.mono fun b hb => by rcases hb with hb | hb; exact hb.elim; omega
             · have := HK3.out; simp at this; omega
             · have := HK3.out; simp at this; have := HLN.out; omega
             intro v4 w4 hO4 hB4
             obtain ⟨A4, c4, rfl, -⟩ := hO4.form
             have hc4 := (hB4.cell (Nat.lt_of_lt_of_le hrW HB3.out.size)).trans hc3
             have hf4 : w4.frozen? ⟨rb, 0, none⟩ = false := (HRB.out.below (HB2.out.trans ((HB3.out.trans (hB4.mono HB3.out.size)).mono (by omega))) hrz).frozen 0
             obtain ⟨k4, hk4⟩ : ∃ k, (l.take j ++ ([p] ++ l.drop j)).length = k := ⟨_, rfl⟩
             rw [hk4] at hO4 ⊢
             have HK4 := Lib.hid hk4
             have HO4 := Lib.hid hO4
             have HB4 := Lib.hid hB4
             clear hO4 hB4 hk4))
        all_goals
          go_wp2
          go_ret
          refine rput_done2 rb z k4 c4 A4 l p w w4 hz (HB2.out.trans ((HB3.out.trans (HB4.out.mono HB3.out.size)).mono (by omega))) ⟨_, HRB.out.below (HB2.out.trans ((HB3.out.trans (HB4.out.mono HB3.out.size)).mono (by omega))) hrz⟩ hrz ?_ HR.out ?_
          · rw [HPUT.out]
            exact HO4.out.sl.mono fun b hb => by have := HB3.out.size; rcases hb with hb | hb <;> omega
          · rw [HPUT.out, HK4.out]
            have := HK4.out
            simp at this
            have := HLN.out
            omega
    · have hjq : j < q := by omega
      obtain ⟨x, hx⟩ := some_at (show j < l.length by rw [HLN.out]; exact hjq)
      obtain ⟨g, off, rfl, hg, x0, -, -⟩ := sl_pair hLW.out hx
      have hld := low_drop hLJ.out hx
      cases hkx : klt x.key p.key
      · have := hld.2 hkx; rw [HLO.out] at this; exact absurd this.symm hjl
      · have HLD := Lib.hid (hld.1 hkx)
        unfold klt at hkx
        clear hld hx
        go_wp2
        go_quiet (fail)
        have HBn := Lib.hid (below_drewN hB.out nq)
        have HPn : Hid (Blk (wr.drewN nq) z #[.string p.key, .string p.val, .bool p.dead] 52) := hP.out.drewN _
        go_wp2
        go_roundw
        case rel => exact ⟨j + 1, by go_num, by omega, HBn, HPn, HLD⟩
        case measure => simp [intOf]; omega
end Go.Proofs.Ytkfndmbnfhhbiaa
