import Derived.Test.YtidfogcilegloaaB4
namespace Go.Proofs.Ytidfogcilegloaa.B
open Go.RowKit Go.Op

theorem next_calls (gl gw : Nat) (hne : gl ≠ gw) (l m : List Pair) (h : 0 < l.length + m.length) (A B : Option Addr) (n c k d : Nat) (W : World) (hgl : Blk W gl #[.slice A n c] 32) (hgw : Blk W gw #[.slice B k d] 32)
    (hl : Sl tPair W (fun b => b < gl ∧ b < gw) (.slice A n c) l) (hm : Sl tPair W (fun b => b < gl ∧ b < gw) (.slice B k d) m) :
    Calls Try.prog 68 #[.pointer (some ⟨gl, 0, none⟩), .pointer (some ⟨gw, 0, none⟩)] W (NextPost gl gw (fun b => b < gl ∧ b < gw) l m W) := by
  cases l with
  | nil =>
    cases m with
    | nil => simp at h
    | cons q m => exact next_right gl gw hne m q A B n c k d W hgl hgw hl hm
  | cons p l =>
    cases m with
    | nil => exact next_left gl gw hne l p A B n c k d W hgl hgw hl hm
    | cons q m =>
      cases h1 : klt p.key q.key with
      | true => exact next_lt gl gw hne l m p q A B n c k d W hgl hgw hl hm h1
      | false =>
        cases h2 : p.key.toList == q.key.toList with
        | true => exact next_eq gl gw hne l m p q A B n c k d W hgl hgw hl hm h1 h2
        | false => exact next_gt gl gw hne l m p q A B n c k d W hgl hgw hl hm h1 h2

theorem own_same {w w' : World} {base : Nat} {v : Value} {l : List Pair} (h : Own tPair w base 68 none_ v l) (hb : ∀ b, v.ownBlock = some b → w'.heap[b]? = w.heap[b]?) : Own tPair w' base 68 none_ v l := by
  obtain ⟨cs, h1, h2⟩ := h
  have h3 := cells_pair h2
  subst h3
  refine ⟨_, ⟨h1.1, ?_⟩, pair_cells _ _ _⟩
  rcases h1.2 with k | ⟨g, cap, cur, rfl, k1, k2, k3⟩
  · exact .inl k
  · exact .inr ⟨g, cap, cur, rfl, k1, (hb g rfl).trans k2, k3⟩
def wlen (W : World) (gl gw : Nat) : Nat := match W.cell? ⟨gl, 0, none⟩, W.cell? ⟨gw, 0, none⟩ with | some (.slice _ n _), some (.slice _ k _) => n + k | _, _ => 0
theorem wlen_eq {W : World} {gl gw : Nat} {A B : Option Addr} {n c k d : Nat} (h1 : Blk W gl #[.slice A n c] 32) (h2 : Blk W gw #[.slice B k d] 32) : wlen W gl gw = n + k := by
  unfold wlen; rw [h1.cell 0, h2.cell 0]; rfl
theorem overlay_step {l m l' m' O L : List Pair} {p : Pair} (h : O ++ overlay l m = L) (hm : merge l m = p :: merge l' m') : (p.dead = true → O ++ overlay l' m' = L) ∧ (p.dead = false → (O ++ [p]) ++ overlay l' m' = L) := by
  unfold overlay at h ⊢
  rw [hm] at h
  constructor
  · intro hd; rw [List.filter_cons_of_neg (by simp [hd])] at h; exact h
  · intro hd; rw [List.filter_cons_of_pos (by simp [hd])] at h; rw [List.append_assoc]; exact h

set_option maxRecDepth 100000 in
set_option maxHeartbeats 4000000 in
theorem overlay_calls (l m : List Pair) (A B : Option Addr) (n c k d : Nat) (w : World) (hl : Sl tPair w (fun _ => True) (.slice A n c) l) (hm : Sl tPair w (fun _ => True) (.slice B k d) m) (hn : n ≤ 100000) (hk : k ≤ 100000) :
    Calls Try.prog 52 #[.slice A n c, .slice B k d] w fun e w' => ∃ v, e = .returned v ∧ Sl tPair w' (fun b => w.heap.size ≤ b) v (overlay l m) ∧ Below w.heap.size w w' := by
  obtain ⟨z, hz⟩ : ∃ z, w.heap.size = z := ⟨_, rfl⟩
  have hb2 := ((Below.refl w.heap.size w).alloc (Nat.le_refl _) (.cells #[.slice A n c] 32)).alloc (by simp) (.cells #[.slice B k d] 32)
  have hL : Hid (Blk ((w.alloc (.cells #[.slice A n c] 32)).alloc (.cells #[.slice B k d] 32)) z #[.slice A n c] 32) := by rw [← hz]; exact (Blk.new w _ 32).alloc _
  have hW : Hid (Blk ((w.alloc (.cells #[.slice A n c] 32)).alloc (.cells #[.slice B k d] 32)) (z + 1) #[.slice B k d] 32) := by
    have := Blk.new (w.alloc (.cells #[.slice A n c] 32)) #[.slice B k d] 32
    simp only [World.size_alloc, hz] at this; exact this
  have hSL : Hid (Sl tPair ((w.alloc (.cells #[.slice A n c] 32)).alloc (.cells #[.slice B k d] 32)) (fun b => b < z ∧ b < z + 1) (.slice A n c) l) := (hl.inb.step fun b hb => hb2.block b hb.2).mono fun b hb => by have := hb.2; omega
  have hSM : Hid (Sl tPair ((w.alloc (.cells #[.slice A n c] 32)).alloc (.cells #[.slice B k d] 32)) (fun b => b < z ∧ b < z + 1) (.slice B k d) m) := (hm.inb.step fun b hb => hb2.block b hb.2).mono fun b hb => by have := hb.2; omega
  have hB2 : Hid (Below z w ((w.alloc (.cells #[.slice A n c] 32)).alloc (.cells #[.slice B k d] 32))) := by rw [← hz]; exact hb2
  have hln := hl.length.1
  have hlm := hm.length.1
  have hO0 : Hid (Own tPair ((w.alloc (.cells #[.slice A n c] 32)).alloc (.cells #[.slice B k d] 32)) (z + 2) 68 none_ (.slice none 0 0) []) := Own.nil tPair _ _ 68 none_
  clear hl hm hb2
  have HLN := Lib.hid hln
  have HLM := Lib.hid hlm
  clear hln hlm
  go_enter Try.func52, Try.ntmps52
  go_wp2
  go_loopw [5] (fun v wr => ∃ (A' B' : Option Addr) (n' c' k' d' : Nat) (l' m' O : List Pair), Hid (O ++ overlay l' m' = overlay l m) ∧ Hid (Blk wr z #[.slice A' n' c'] 32) ∧ Hid (Blk wr (z + 1) #[.slice B' k' d'] 32) ∧ Hid (Sl tPair wr (fun b => b < z ∧ b < z + 1) (.slice A' n' c') l') ∧
      Hid (Sl tPair wr (fun b => b < z ∧ b < z + 1) (.slice B' k' d') m') ∧ Hid (Own tPair wr (z + 2) 68 none_ v O) ∧ Hid (Below z w wr) ∧ O.length + n' + k' ≤ 200000 ∧ z + 1 < wr.heap.size) (fun _ wr => wlen wr z (z + 1))
  case atStart =>
    exact ⟨A, B, n, c, k, d, l, m, [], rfl, hL, hW, hSL, hSM, hO0, hB2, by simp; omega, by simp; omega⟩
  case round =>
    obtain ⟨A', B', n', c', k', d', l', m', O, heq, hL', hW', hl', hm', hO, hB, hlen, hzr⟩ := hrel
    have c0 := hL'.out.cell 0
    have c1 := hW'.out.cell 0
    have e1 := hl'.out.length.1
    have e2 := hm'.out.length.1
    by_cases hpos : 0 < n' + k'
    · have HN := Lib.hid (next_calls z (z + 1) (by omega) l' m' (by omega) A' B' n' c' k' d' wr hL'.out hW'.out hl'.out hm'.out)
      have hmeas := Lib.hid (wlen_eq hL'.out hW'.out)
      have E1 := Lib.hid e1
      have E2 := Lib.hid e2
      clear hL hW hSL hSM hB2 hO0 e1 e2
      go_wp2_with fail
      refine HN.out.mono ?_
      rintro e w2 ⟨A2, n2, c2, B2, k2, d2, l2, m2, p, rfl, q1, q2, q3, q4, q5, q6, q7⟩
      clear HN
      have e3 := q4.length.1
      have e4 := q5.length.1
      have hz2 := q7.size
      have hbA := (Below.refl w2.heap.size w2).alloc (Nat.le_refl _) (.cells #[.string p.key, .string p.val, .bool p.dead] 68)
      have HL2 : Hid (Blk (w2.alloc (.cells #[.string p.key, .string p.val, .bool p.dead] 68)) z #[.slice A2 n2 c2] 32) := q2.alloc _
      have HW2 : Hid (Blk (w2.alloc (.cells #[.string p.key, .string p.val, .bool p.dead] 68)) (z + 1) #[.slice B2 k2 d2] 32) := q3.alloc _
      have HSL2 : Hid (Sl tPair (w2.alloc (.cells #[.string p.key, .string p.val, .bool p.dead] 68)) (fun b => b < z ∧ b < z + 1) (.slice A2 n2 c2) l2) := q4.below hbA
      have HSM2 : Hid (Sl tPair (w2.alloc (.cells #[.string p.key, .string p.val, .bool p.dead] 68)) (fun b => b < z ∧ b < z + 1) (.slice B2 k2 d2) m2) := q5.below hbA
      have HO2 : Hid (Own tPair (w2.alloc (.cells #[.string p.key, .string p.val, .bool p.dead] 68)) (z + 2) 68 none_ u5 O) :=
        (own_same hO.out fun b hb => q7.block b (hO.out.lo hb).2 (by have := (hO.out.lo hb).1; omega) (by have := (hO.out.lo hb).1; omega)).alloc _
      have HB2' : Hid (Below z w (w2.alloc (.cells #[.string p.key, .string p.val, .bool p.dead] 68))) := (q7.below z w (Nat.le_refl _) (by omega) (by omega) hB.out).alloc (by omega) _
      have hst := overlay_step heq.out q1
      have HME : Hid (wlen (w2.alloc (.cells #[.string p.key, .string p.val, .bool p.dead] 68)) z (z + 1) < wlen wr z (z + 1)) := by
        show _ < _
        rw [hmeas.out, wlen_eq HL2.out HW2.out, ← e3, ← e4, ← E1.out, ← E2.out]; omega
      rw [E1.out, E2.out, e3, e4] at q6
      clear q1 q2 q3 q4 q5 q7 hbA heq hO hB hmeas c0 c1 hL' hW' hl' hm' e3 e4
      cases hd : p.dead
      · have HST := Lib.hid (hst.2 hd)
        have HD := Lib.hid hd
        rw [hd] at HL2 HW2 HSL2 HSM2 HO2 HB2' HME
        have hK : Hid (tPair.K (w2.alloc (.cells #[.string p.key, .string p.val, .bool false] 68)) (fun b => none_ b ∧ u5.ownBlock ≠ some b) p [.string p.key, .string p.val, .bool false]) := by
          show _ = p.enc; rw [Pair.enc, hd]
        have hX := Lib.hid (Below.refl (z + 2) (w2.alloc (.cells #[.string p.key, .string p.val, .bool false] 68)))
        clear hst hd
        go_wp2_with (at_builtin; go_loud (refine wpList_app1 (o := ⟨some 23, _, _, _, _, _⟩) (t := tPair) (w0 := (w2.alloc (.cells #[.string p.key, .string p.val, .bool false] 68))) (g := w2.heap.size + 1) (cs := [.string p.key, .string p.val, .bool false]) (y := p) (z + 2) rfl _ _ 32 68 _ 40 rfl Try.underlying32 info52 rfl (by decide) (by decide) rfl ?c1 rfl HO2.out hK.out hX.out ?c2 ?c3 ?_); (case c1 => simp); (case c2 => simp; omega); (case c3 => omega); intro v1 w9 hO9 hB9 hG9 _)
        have hO9' := Lib.hid hO9
        have hLx : Hid (Blk w9 z #[.slice A2 n2 c2] 32) := HL2.out.below hB9 (by omega)
        have hWx : Hid (Blk w9 (z + 1) #[.slice B2 k2 d2] 32) := HW2.out.below hB9 (by omega)
        have hSLx : Hid (Sl tPair w9 (fun b => b < z ∧ b < z + 1) (.slice A2 n2 c2) l2) := HSL2.out.step fun b hb => hB9.block b (by omega)
        have hSMx : Hid (Sl tPair w9 (fun b => b < z ∧ b < z + 1) (.slice B2 k2 d2) m2) := HSM2.out.step fun b hb => hB9.block b (by omega)
        have hBx : Hid (Below z w w9) := HB2'.out.trans (hB9.mono (by omega))
        have hMx : Hid (wlen w9 z (z + 1) < wlen wr z (z + 1)) := by
          show _ < _
          rw [wlen_eq hLx.out hWx.out, ← wlen_eq HL2.out HW2.out]; exact HME.out
        have hz9 := hG9.size
        simp only [World.size_alloc] at hz9
        clear hO9 hB9 hG9
        go_roundw
        case rel => exact ⟨A2, B2, n2, c2, k2, d2, l2, m2, O ++ [p], HST, hLx, hWx, hSLx, hSMx, hO9', hBx, by simp; omega, by omega⟩
        case measure => exact hMx.out
      · have HST := Lib.hid (hst.1 hd)
        rw [hd] at HL2 HW2 HSL2 HSM2 HO2 HB2' HME
        clear hst hd
        go_wp2
        go_roundw
        case rel => exact ⟨A2, B2, n2, c2, k2, d2, l2, m2, O, HST, HL2, HW2, HSL2, HSM2, HO2, HB2', by omega, by simp; omega⟩
        case measure => exact HME.out
    · have hl0 : l' = [] := List.eq_nil_of_length_eq_zero (by omega)
      have hm0 : m' = [] := List.eq_nil_of_length_eq_zero (by omega)
      subst hl0 hm0
      have hfin : Hid (O = overlay l m) := by
        have := heq.out
        show _ = _
        simpa [overlay, merge] using this
      obtain rfl : n' = 0 := by omega
      obtain rfl : k' = 0 := by omega
      go_wp2
      go_ret
      refine ⟨_, rfl, ?_, by rw [hz]; exact hB.out⟩
      rw [← hfin.out, hz]
      exact hO.out.sl.mono fun b hb => hb.elim False.elim fun h => by omega
end Go.Proofs.Ytidfogcilegloaa.B
