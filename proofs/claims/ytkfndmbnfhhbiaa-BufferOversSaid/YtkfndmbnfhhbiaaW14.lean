import Derived.Test.YtkfndmbnfhhbiaaW13
import Derived.Deep.AppendSrc
/-! The document's put, where it puts. -/
namespace Go.Proofs.Ytkfndmbnfhhbiaa
open Go.RowKit Go.Op

theorem low_lt {l : List Pair} (hr : Rising l) {p : Pair} (h : hasK l p.key = true) : low l p.key < l.length := by
  have := at_low hr p.key
  rw [h] at this
  cases hq : l[low l p.key]? with
  | none => rw [hq] at this; cases this
  | some x => exact (List.getElem?_eq_some_iff.1 hq).1
theorem put_has {l : List Pair} (hr : Rising l) {p : Pair} (h : hasK l p.key = true) : put l p = l.set (low l p.key) p := by
  rw [List.set_eq_take_append_cons_drop, if_pos (low_lt hr h)]
  unfold put
  rw [h]; rfl
theorem put_not {l : List Pair} {p : Pair} (h : hasK l p.key = false) : put l p = l.take (low l p.key) ++ ([p] ++ l.drop (low l p.key)) := by
  unfold put
  rw [h]; rfl
theorem cells_pairs {w : World} {ok : Nat → Prop} : ∀ {l : List Pair} {cs : List Value}, Cells tPair w ok l cs ↔ cs = l.flatMap Pair.enc
  | [], _ => Iff.rfl
  | x :: l, cs => by
    constructor
    · rintro ⟨c, d, e, hk, hd⟩
      rw [e, show c = x.enc from hk, cells_pairs.1 hd]; rfl
    · intro h
      exact ⟨x.enc, l.flatMap Pair.enc, by rw [h]; rfl, rfl, cells_pairs.2 rfl⟩
theorem flat_setP : ∀ {l : List Pair} {i j : Nat} {x x' : Pair} {u : Value}, l[i]? = some x → j < 3 → x'.enc = x.enc.set j u → (l.set i x').flatMap Pair.enc = (l.flatMap Pair.enc).set (i * 3 + j) u
  | [], i, _, _, _, _, h, _, _ => by simp at h
  | y :: l, 0, j, x, x', u, h, hj, he => by
    obtain rfl : y = x := by simpa using h
    have hlen : y.enc.length = 3 := rfl
    rw [List.set_cons_zero, List.flatMap_cons, List.flatMap_cons, he, Nat.zero_mul, Nat.zero_add, List.set_append_left _ _ (by omega)]
  | y :: l, i + 1, j, x, x', u, h, hj, he => by
    have hlen : y.enc.length = 3 := rfl
    rw [List.set_cons_succ, List.flatMap_cons, List.flatMap_cons, List.set_append_right _ _ (by omega), flat_setP (by simpa using h) hj he, hlen]
    congr 2; omega
theorem sl_set1 {w : World} {ok : Nat → Prop} {b off n cap : Nat} {l : List Pair} (h : Sl tPair w ok (.slice (some ⟨b, off, none⟩) n cap) l) {i j : Nat} {x x' : Pair} {u : Value} (hi : l[i]? = some x) (hj : j < 3) (he : x'.enc = x.enc.set j u) :
    Sl tPair (w.setCell ⟨b, off + i * 3 + j, none⟩ u) ok (.slice (some ⟨b, off, none⟩) n cap) (l.set i x') := by
  obtain ⟨A, cap', cs, e, h1, h2, h3, h4⟩ := h
  injection e with e1 e2 e3
  subst e1 e2 e3
  refine ⟨_, _, cs.set (i * 3 + j) u, by rw [List.length_set], by rw [List.length_set]; exact h1, h2, ?_, ?_⟩
  · rw [cells_pairs] at h3 ⊢
    rw [h3, flat_setP hi hj he]
  · rcases h4 with h4 | ⟨b', off', e, hb, hc⟩
    · have hl := h3.len
      rw [h4] at hl
      have := (List.getElem?_eq_some_iff.1 hi).1
      simp [show tPair.sz = 3 from rfl] at hl
      omega
    · injection e with e
      injection e with e1 e2
      subst e1 e2
      refine .inr ⟨b, off, rfl, hb, fun k v hk => ?_⟩
      by_cases hke : k = i * 3 + j
      · subst hke
        rw [List.getElem?_set_self'] at hk
        cases hq : cs[i * 3 + j]? with
        | none => rw [hq] at hk; cases hk
        | some q =>
          rw [hq] at hk
          obtain rfl : u = v := by simpa using hk
          rw [show off + (i * 3 + j) = off + i * 3 + j by omega]
          exact World.cell?_setCell_same w _ _ (by rw [show off + i * 3 + j = off + (i * 3 + j) by omega]; exact hc _ _ hq)
      · rw [List.getElem?_set_ne (by omega)] at hk
        exact (World.cell?_setCell_other w _ _ _ (by intro e; injection e with _ e; omega)).trans (hc k v hk)
/-- A pair is stored over another. -/
theorem sl_setPair {w : World} {ok : Nat → Prop} {b off n cap : Nat} {l : List Pair} (h : Sl tPair w ok (.slice (some ⟨b, off, none⟩) n cap) l) {i : Nat} (hi : i < l.length) (p : Pair) :
    Sl tPair (((w.setCell ⟨b, off + i * 3, none⟩ (.string p.key)).setCell ⟨b, off + i * 3 + 1, none⟩ (.string p.val)).setCell ⟨b, off + i * 3 + 2, none⟩ (.bool p.dead)) ok (.slice (some ⟨b, off, none⟩) n cap) (l.set i p) := by
  obtain ⟨x, hx⟩ := some_at hi
  have h1 := sl_set1 (j := 0) (x' := ⟨p.key, x.val, x.dead⟩) (u := .string p.key) h hx (by decide) rfl
  have h2 := sl_set1 (j := 1) (x := ⟨p.key, x.val, x.dead⟩) (x' := ⟨p.key, p.val, x.dead⟩) (u := .string p.val) h1 (by rw [List.getElem?_set_self hi]) (by decide) rfl
  have h3 := sl_set1 (j := 2) (x := ⟨p.key, p.val, x.dead⟩) (x' := p) (u := .bool p.dead) h2 (by rw [List.getElem?_set_self (by simpa using hi)]) (by decide) rfl
  rw [List.set_set, List.set_set] at h3
  exact h3

theorem Own.row {α : Type} {t : Ty α} {w : World} {base e : Nat} {ok : Nat → Prop} {g off n c : Nat} {l : List α} (h : Own t w base e ok (.slice (some ⟨g, off, none⟩) n c) l) : off = 0 ∧ base ≤ g ∧ g < w.heap.size ∧ ∀ j, w.frozen? ⟨g, j, none⟩ = false := by
  have hlo := h.lo (b := g) rfl
  obtain ⟨cs, h1, _⟩ := h
  rcases h1.2 with ⟨h2, _⟩ | ⟨g', cap, cur, e1, hb, hh, _⟩
  · cases h2
  · injection e1 with e1
    injection e1 with e1
    injection e1 with e1 e2
    subst e1 e2
    exact ⟨rfl, hlo.1, hlo.2, fun j => by simp [World.frozen?, hh]⟩
/-- append(s, m...), s without room: a new row. -/
theorem wp_appGrow {α : Type} {t : Ty α} {P : Program} {W : World} {o : Oper} {a : Act} {Q : Exit → Act → World → Prop} {ok : Nat → Prop} {l m : List α} {K : Act → World → Prop} (s x : Operand) (T e : TypeId) (z : Value) (bytes : Nat)
    (ho : o.op = .call { callee := .builtin .append, args := #[s, x], argTypes := #[T, T] })
    (ht : P.underlying T = some (.slice e)) (hinfo : (P.info? e).map (fun i => (i.zero, i.size, i.bytes)) = some (some z, t.sz, bytes)) (hzs : z.cells.size = t.sz) (hsz : 0 < t.sz) (hb0 : 0 < bytes)
    {A B : Option Addr} {n k c : Nat} (hs : a.eval s = .slice A n n) (hx : a.eval x = .slice B k c) (hl : Sl t W ok (.slice A n n) l) (hm : Sl t W ok (.slice B k c) m) (hk : 0 < k) (hlen : (n + k) * bytes ≤ 140737488355328)
    (h : ∀ v1 w1, Own t w1 W.heap.size e ok v1 (l ++ m) → Below W.heap.size W w1 → K (a.put o.dst v1) w1) : o.wp P a W K Q := by
  obtain ⟨i0, hi, hzz⟩ := Option.map_eq_some_iff.1 hinfo
  simp only [Prod.mk.injEq] at hzz
  obtain ⟨hz0, hz1, hz2⟩ := hzz
  obtain ⟨A1, c1, olds, e1, -, hA, ho1, ho2⟩ := hl
  obtain ⟨B1, c2, news, e2, -, hB, hn1, hn2⟩ := hm
  injection e1 with a1 a2 a3
  injection e2 with b1 b2 b3
  subst a1 b1
  subst a3
  subst b3
  have hmlen : n + k ≤ 140737488355328 := Nat.le_trans (Nat.le_mul_of_pos_right _ hb0) hlen
  have hol := ho1.len
  have hnl := hn1.len
  rw [← a2] at hol
  rw [← b2] at hnl
  have hat : ∀ {C : Option Addr} {xs : List Value} {r d : Nat} (W' : World), xs.length = r * t.sz → At W ok C xs → W'.heap = W.heap → (Builtin.firstCells t.sz r (.slice C r d)).run P W' = .ok xs.toArray W' := by
    intro C xs r d W' h1 h2 hW
    rcases h2 with rfl | ⟨b, off, rfl, -, hc⟩
    · obtain rfl : r = 0 := by
        rcases Nat.eq_zero_or_pos r with h | h
        · exact h
        · have := Nat.mul_pos h hsz; simp at h1; omega
      cases C with
      | none => exact run_firstCells_none W' t.sz 0 0 d
      | some ad => exact run_firstCells_some W' t.sz 0 ad 0 d [] (by simp) (fun j u hj => by simp at hj)
    · refine run_firstCells_some W' t.sz r ⟨b, off, none⟩ r d xs h1 fun j u hj => ?_
      rw [show (⟨b, off, none⟩ : Addr).add j = ⟨b, off + j, none⟩ by unfold Addr.add; split <;> simp_all]
      exact (World.cell?_of_block (w := W) (a := ⟨b, off + j, none⟩) (by rw [hW])).trans (hc j u hj)
  have hsrc : Src P i0.size T (.slice B k c) k news W := by
    rw [hz1]
    exact ⟨.inl ⟨e, ht⟩, fun _ => rfl, hat W hnl hn2 rfl, hat W.drew hnl hn2 rfl, hnl, hn1.one'⟩
  have hrun := run_append_grow_src (P := P) W T T o.type e i0 z ht hi hz0 A n n olds (by rw [hz1]; exact hat W.drew hol ho2 rfl) (.slice B k c) k news hsrc (by omega) (by omega) (by rw [hz2]; exact growslice_fits (by omega) hlen)
  have hge := grownCap_ge W (n + k) n e
  have hcm := grownCap_le_maxLen W (n + k) n e (by simp only [maxLen]; omega)
  have hL : (olds ++ news).length = (n + k) * t.sz := by rw [List.length_append, hol, hnl, Nat.add_mul]
  unfold Oper.wp execOp
  simp only [ho, resolve, invoke, builtin, Sem.run_bind, Sem.run_pure, Result.andThen_ok, List.map_toArray, List.map_cons, List.map_nil, hs, hx, hrun]
  have hbw : Below W.heap.size W (W.drew.alloc (.cells ((olds ++ news).toArray ++ Builtin.zeroCells z.cells (grownCap W (n + k) n e - (n + k))) e)) := (Below.refl W.heap.size W).drew.alloc (Nat.le_refl _) _
  refine h _ _ ⟨olds ++ news, ?_, ?_⟩ hbw
  · rw [show (l ++ m).length = n + k by rw [List.length_append, ← a2, ← b2]]
    refine ⟨hL, .inr ⟨W.heap.size, _, _, rfl, Nat.le_refl _, heap_alloc_new W.drew _, hge, hcm, ?_, ?_⟩⟩
    · simp only [Array.size_append, List.size_toArray, size_zeroCells, hzs, hL, ← Nat.add_mul]
      congr 1
      omega
    · simp only [Array.toList_append]
      rw [← hL]
      exact List.take_left
  · have hap := ho1.append hn1
    refine (hap.inb.step fun b hb => hbw.block b hb.2).mono fun b hb => ⟨hb.1, fun e => ?_⟩
    have e : some W.heap.size = some b := e
    injection e with e
    have := hb.2
    omega

theorem rput_done (rb z q j g9 c9 : Nat) (l : List Pair) (p : Pair) (w w9 : World) (hz : w.heap.size = z) (hB : Below z w w9) (hrb : ∃ v, Blk w9 rb #[v] 33) (hrz : rb < z) (hg9 : z ≤ g9)
    (hS : Sl tPair w9 (fun b => rb < b) (.slice (some ⟨g9, 0, none⟩) q c9) l) (hj : j < q) (hp : put l p = l.set j p) (hr : Rising l) (h4 : q ≤ 64) :
    Ending.returned (.int .i64 0) = Ending.returned (Value.int .i64 0) ∧ RBuf ((((w9.setCell ⟨g9, j * 3, none⟩ (.string p.key)).setCell ⟨g9, j * 3 + 1, none⟩ (.string p.val)).setCell ⟨g9, j * 3 + 2, none⟩ (.bool p.dead)).setCell ⟨rb, 0, none⟩ (.slice (some ⟨g9, 0, none⟩) q c9)) rb (put l p) ∧
      w.grownBy ((((w9.setCell ⟨g9, j * 3, none⟩ (.string p.key)).setCell ⟨g9, j * 3 + 1, none⟩ (.string p.val)).setCell ⟨g9, j * 3 + 2, none⟩ (.bool p.dead)).setCell ⟨rb, 0, none⟩ (.slice (some ⟨g9, 0, none⟩) q c9)) (some rb) := by
  have hl := hS.length.1
  have hne : rb ≠ g9 := by omega
  obtain ⟨v, hrb⟩ := hrb
  have h1 := sl_setPair hS (i := j) (by omega) p
  rw [Nat.zero_add] at h1
  obtain ⟨S, hS3⟩ : ∃ S, ((w9.setCell ⟨g9, j * 3, none⟩ (.string p.key)).setCell ⟨g9, j * 3 + 1, none⟩ (.string p.val)).setCell ⟨g9, j * 3 + 2, none⟩ (.bool p.dead) = S := ⟨_, rfl⟩
  have hb3 : Below z w S := by rw [← hS3]; exact ((hB.setCell (p := ⟨g9, j * 3, none⟩) hg9 _).setCell (p := ⟨g9, j * 3 + 1, none⟩) hg9 _).setCell (p := ⟨g9, j * 3 + 2, none⟩) hg9 _
  have hk3 : Blk S rb #[v] 33 := by rw [← hS3]; exact ((hrb.far (p := ⟨g9, j * 3, none⟩) hne _).far (p := ⟨g9, j * 3 + 1, none⟩) hne _).far (p := ⟨g9, j * 3 + 2, none⟩) hne _
  rw [hS3] at h1 ⊢
  have hlen : (put l p).length = q := by rw [hp, List.length_set, hl]
  refine ⟨rfl, ⟨some ⟨g9, 0, none⟩, c9, ?_, ?_, put_rising hr p, by omega⟩, ⟨hb3.os, hb3.tape, hb3.output, ?_, ?_⟩⟩
  · rw [hlen]; exact hk3.set 0 _
  · rw [hlen, hp]
    exact h1.step fun b hb => Below.heap_setCell S _ _ b (by show b ≠ rb; omega)
  · rw [World.size_setCell]; exact hb3.size
  · intro k hk hne
    exact (Below.heap_setCell S _ _ k (by intro e; exact hne (by rw [e]))).trans (hb3.block k (by omega))

set_option maxHeartbeats 8000000 in
set_option maxRecDepth 100000 in
theorem rputhas_calls (rb : Nat) (l : List Pair) (p : Pair) (w : World) (h : RBuf w rb l) (hk : p.key.size ≤ 140737488351232) (hv : p.val.size ≤ 140737488351232)
    (g1 : 1 ≤ p.key.size) (g2 : p.key.size ≤ 64) (g3 : p.val.size ≤ 256) (g4 : hasK l p.key = true) :
    Calls Try.prog 27 #[.pointer (some ⟨rb, 0, none⟩), .agg #[.string p.key, .string p.val, .bool p.dead]] w fun e w' => e = .returned (.int .i64 0) ∧ RBuf w' rb (put l p) ∧ w.grownBy w' (some rb) := by
  obtain ⟨A, c, h1, h2, h3, h4⟩ := h
  obtain ⟨q, hq⟩ : ∃ q, l.length = q := ⟨_, rfl⟩
  rw [hq] at h1 h2 h4
  obtain ⟨z, hz⟩ : ∃ z, w.heap.size = z := ⟨_, rfl⟩
  have HLN := Lib.hid hq
  have hcap := h2.length.2
  have HL := Lib.hid h2
  have HR := Lib.hid h3
  have G4 := Lib.hid g4
  have hput := put_has h3 g4
  have hlt := low_lt h3 g4
  rw [hq] at hlt
  have hba := (Below.refl w.heap.size w).alloc (Nat.le_refl _) (.cells #[.string p.key, .string p.val, .bool p.dead] 52)
  have HB0 : Hid (Below z w (w.alloc (.cells #[.string p.key, .string p.val, .bool p.dead] 52))) := by rw [← hz]; exact hba
  have HP0 : Hid (Blk (w.alloc (.cells #[.string p.key, .string p.val, .bool p.dead] 52)) z #[.string p.key, .string p.val, .bool p.dead] 52) := by rw [← hz]; exact Blk.new _ _ _
  have HRB := Lib.hid h1
  have hrz : rb < z := by rw [← hz]; exact h1.lt
  have hlow := low_le l p.key
  rw [hq] at hlow
  have HAT := Lib.hid (at_low h3 p.key)
  obtain ⟨lo, hlo⟩ : ∃ lo, low l p.key = lo := ⟨_, rfl⟩
  have HLO := Lib.hid hlo
  rw [hlo] at hlow HAT hput hlt
  have HPUT := Lib.hid hput
  clear hput
  clear g4 h1 h2 h3 hba hq hlo
  go_enter Try.func27, Try.ntmps27
  go_wp2
  go_loopw [5] (fun i wr => ∃ j : Nat, i = .int .i64 j ∧ j ≤ lo ∧ Hid (Below z w wr) ∧ Hid (Blk wr z #[.string p.key, .string p.val, .bool p.dead] 52) ∧ Hid (j + low (l.drop j) p.key = low l p.key)) (fun i _ => q + 1 - (intOf i).toNat)
  case atStart => exact ⟨0, rfl, by omega, HB0, HP0, by show _ = _; simp⟩
  case round =>
    obtain ⟨j, rfl, hj, hB, hP, hLJ⟩ := hrel
    clear HB0 HP0
    have c0 := (HRB.out.below hB.out hrz).cell 0
    have y0 := hP.out.cell 0
    have y1 := hP.out.cell 1
    have y2 := hP.out.cell 2
    have hLW : Hid (Sl tPair wr (fun _ => True) (.slice A q c) l) := (HL.out.inb.step fun b hb => hB.out.block b (by have := hb.2; omega)).mono fun _ _ => trivial
    by_cases hjl : j = lo
    · subst hjl
      · have hjq : j < q := hlt
        obtain ⟨x, hx⟩ := some_at (show j < l.length by rw [HLN.out]; exact hjq)
        obtain ⟨g, off, rfl, hg, x0, -, -⟩ := sl_pair hLW.out hx
        have hld := low_drop hLJ.out hx
        rw [HLO.out] at hld
        have hkx : klt x.key p.key = false := by
          cases hkx : klt x.key p.key
          · rfl
          · have := hld.1 hkx; omega
        have hat : hasK l p.key = (x.key.toList == p.key.toList) := by rw [HAT.out, hx]
        have HAX := Lib.hid hat
        unfold klt at hkx
        clear hld hx hat
        go_wp2
        go_quiet (fail)
        obtain ⟨W1, hW1⟩ : ∃ W1, wr.drewN nq = W1 := ⟨_, rfl⟩
        have hb1 : Below wr.heap.size wr W1 := by rw [← hW1]; exact below_drewN (Below.refl _ _) _
        have y0' := (hP.out.below hb1 hP.out.lt).cell 0
        have y1' := (hP.out.below hb1 hP.out.lt).cell 1
        have y2' := (hP.out.below hb1 hP.out.lt).cell 2
        have c0' := (HRB.out.below (hB.out.trans (hb1.mono (by have := hB.out.size; omega))) hrz).cell 0
        have HBE := Lib.hid (hB.out.trans (hb1.mono (by have := hB.out.size; omega)))
        have x0' := (hb1.cell hg).trans x0
        rw [hW1]
        clear hW1 y0 y1 y2 c0
        clear HAT
        have g4 := HAX.out.symm.trans G4.out
        go_wp2
        go_quiet (fail)
        obtain ⟨W2, hW2⟩ : ∃ W2, W1.drewN nq = W2 := ⟨_, rfl⟩
        have HB2 : Hid (Below z w W2) := by rw [← hW2]; exact below_drewN HBE.out _
        have y0'' : W2.cell? ⟨z, 0, none⟩ = some (.string p.key) := by rw [← hW2]; exact y0'
        have y1'' : W2.cell? ⟨z, 1, none⟩ = some (.string p.val) := by rw [← hW2]; exact y1'
        have y2'' : W2.cell? ⟨z, 2, none⟩ = some (.bool p.dead) := by rw [← hW2]; exact y2'
        have c0'' : W2.cell? ⟨rb, 0, none⟩ = some (.slice (some ⟨g, off, none⟩) q c) := by rw [← hW2]; exact c0'
        have x0'' : W2.cell? ⟨g, off + j * 3, none⟩ = some (.string x.key) := by rw [← hW2]; exact x0'
        have hsz : wr.heap.size ≤ W2.heap.size := by rw [← hW2]; exact hb1.size
        have hzW : z < W2.heap.size := Nat.lt_of_lt_of_le hP.out.lt hsz
        have hrW : rb < W2.heap.size := Nat.lt_trans hrz hzW
        have hgW : g < W2.heap.size := Nat.lt_of_lt_of_le hg hsz
        have HLS : Hid (Sl tPair W2 (fun b => rb < b) (.slice (some ⟨g, off, none⟩) q c) l) := by
          rw [← hW2]; exact ((HL.out.inb.step fun b hb => hB.out.block b (by have := hb.2; omega)).mono fun _ h => h.1).below (below_drewN hb1 _)
        rw [hW2]
        clear hW2 y0' y1' y2' c0' x0'
        have hb8 := (Below.refl W2.heap.size W2).alloc (Nat.le_refl _) (.cells #[] 52)
        have HE8 : Hid (Own tPair (W2.alloc (.cells #[] 52)) W2.heap.size 52 (fun _ => False) (.slice (some ⟨W2.heap.size, 0, none⟩) 0 0) []) := Own.empty tPair W2 52 _ (Nat.le_refl _)
        have HX8 := Lib.hid (sl_px (HLS.out.below hb8) (fun b => False ∧ (Value.slice (some ⟨W2.heap.size, 0, none⟩) 0 0).ownBlock ≠ some b))
        have HB8 := Lib.hid hb8
        clear hb8
        go_wp2_with (at_builtin; refine wpList_appSl (o := ⟨some 71, _, _, _, _, _⟩) (t := tPair) (w0 := W2) (l := []) (m := l) W2.heap.size rfl _ _ 23 52 _ 40 rfl Try.underlying23 info52 rfl (by decide) (by decide) rfl rfl HE8.out HX8.out HB8.out ?c2 ?c3 ?_; (case c2 => exact HB8.out.size); (case c3 => rw [List.length_nil, HLN.out]; omega); intro v9 w9 hO9 hB9 hG9 _; rw [List.nil_append] at hO9; obtain ⟨A9, c9, rfl, -⟩ := hO9.form; rw [HLN.out] at hO9; have HO9 := Lib.hid hO9; have HB9 := Lib.hid hB9; have HS9 := Lib.hid hO9.sl; have y0 := (hB9.cell hzW).trans y0''; have y1 := (hB9.cell hzW).trans y1''; have y2 := (hB9.cell hzW).trans y2''; have c0 := (hB9.cell hrW).trans c0''; rw [HLN.out]; obtain ⟨x9, hx9⟩ := some_at (show j < l.length by rw [HLN.out]; exact hjq); obtain ⟨g9, off9, rfl, hg9, x90, x91, x92⟩ := sl_pair HS9.out hx9; obtain ⟨rfl, r1, r2, r3⟩ := HO9.out.row; have HFZ := (HRB.out.below (HB2.out.trans (hB9.mono (by omega))) hrz).frozen 0; have hne : rb ≠ g9 := (by omega); have hne2 : z ≠ g9 := (by omega); have f0 := r3 (j * 3); have f1 := r3 (j * 3 + 1); have f2 := r3 (j * 3 + 2); rw [Nat.zero_add] at x90 x91 x92; clear r3 hx9 hO9 hB9 hG9)
        go_ret
        refine rput_done rb z q j g9 c9 l p w w9 ?_ ?_ ?_ ?_ ?_ ?_ ?_ ?_ ?_ ?_
        · exact hz
        · exact HB2.out.trans (HB9.out.mono (by omega))
        · exact ⟨_, HRB.out.below (HB2.out.trans (HB9.out.mono (by omega))) hrz⟩
        · exact hrz
        · omega
        · exact HS9.out.mono fun b hb => by rcases hb with hb | hb; exact hb.elim; omega
        · exact hjq
        · exact HPUT.out
        · exact HR.out
        · exact h4
    · have hjq : j < q := by omega
      obtain ⟨x, hx⟩ := some_at (show j < l.length by rw [HLN.out]; exact hjq)
      obtain ⟨g, off, rfl, hg, x0, -, -⟩ := sl_pair hLW.out hx
      have hld := low_drop hLJ.out hx
      cases hkx : klt x.key p.key
      · have := hld.2 hkx; rw [HLO.out] at this; exact absurd this.symm hjl
      · have HLD := Lib.hid (hld.1 hkx)
        unfold klt at hkx
        clear hld hx
        go_wp2
        go_quiet (fail)
        have HBn := Lib.hid (below_drewN hB.out nq)
        have HPn : Hid (Blk (wr.drewN nq) z #[.string p.key, .string p.val, .bool p.dead] 52) := hP.out.drewN _
        go_wp2
        go_roundw
        case rel => exact ⟨j + 1, by go_num, by omega, HBn, HPn, HLD⟩
        case measure => simp [intOf]; omega
end Go.Proofs.Ytkfndmbnfhhbiaa
