import Derived.Test.YtkfndmbnfhhbiaaW5
/-! Writes, Over; the document's Overlay. -/
namespace Go.Proofs.Ytkfndmbnfhhbiaa
open Go.RowKit Go.Op

theorem writes_calls (pb mb : Nat) (l : List Pair) (w : World) (h : Buf w pb mb l) :
    Calls Try.prog 23 #[.pointer (some ⟨pb, 0, none⟩)] w fun e w' => ∃ v, e = .returned v ∧ Sl tPair w' (fun b => w.heap.size ≤ b) v l ∧ Below w.heap.size w w' := by
  have HW := Lib.hid (within_all pb mb l w h)
  clear h
  go_enter Try.func23, Try.ntmps23
  go_wp2_with fail
  refine HW.out.mono ?_
  rintro e w' ⟨v, rfl, h1, h2⟩
  have H1 := Lib.hid h1
  clear h1
  go_wp2
  go_ret
  exact ⟨_, rfl, H1.out, h2⟩

def over (L l : List Pair) (x y : ByteArray) (most : Int) : List Pair := (overlay l (L.filter fun p => inR x y p.key)).take (max most 0).toNat
set_option maxHeartbeats 1000000 in
theorem over_calls (pb mb : Nat) (L l : List Pair) (A : Option Addr) (n c : Nat) (x y : ByteArray) (most : Int) (w : World) (h : Buf w pb mb L) (hl : Sl tPair w (fun _ => True) (.slice A n c) l) (hn : n ≤ 100000) :
    Calls Try.prog 17 #[.pointer (some ⟨pb, 0, none⟩), .slice A n c, .string x, .string y, .int .i64 most] w fun e w' => ∃ v, e = .returned v ∧ Sl tPair w' (fun b => w.heap.size ≤ b) v (over L l x y most) ∧ Below w.heap.size w w' := by
  have hb2 := ((Below.refl w.heap.size w).alloc (Nat.le_refl _) (.cells #[.string x] 9)).alloc (by simp) (.cells #[.string y] 9)
  have hX : Blk ((w.alloc (.cells #[.string x] 9)).alloc (.cells #[.string y] 9)) w.heap.size #[.string x] 9 := (Blk.new w _ 9).alloc _
  have hY : Blk ((w.alloc (.cells #[.string x] 9)).alloc (.cells #[.string y] 9)) (w.heap.size + 1) #[.string y] 9 := by
    have := Blk.new (w.alloc (.cells #[.string x] 9)) #[.string y] 9
    simpa only [World.size_alloc] using this
  have HW := Lib.hid (within_range pb mb L w.heap.size (w.heap.size + 1) x y _ (h.below hb2) hX hY)
  obtain ⟨F, hF⟩ : ∃ F, L.filter (fun p => inR x y p.key) = F := ⟨_, rfl⟩
  have hFl : F.length ≤ 64 := by rw [← hF]; exact Nat.le_trans (List.length_filter_le _ _) h.len
  unfold over
  rw [hF] at HW ⊢
  have HL : Hid (Sl tPair ((w.alloc (.cells #[.string x] 9)).alloc (.cells #[.string y] 9)) (fun _ => True) (.slice A n c) l) := hl.below hb2
  have HB := Lib.hid hb2
  clear h hl hX hY hb2 hF
  go_enter Try.func17, Try.ntmps17
  go_wp2_with fail
  refine HW.out.mono ?_
  rintro e w2 ⟨v, rfl, h1, h2⟩
  obtain ⟨A2, c2, rfl, -⟩ := h1.form
  have HO := Lib.hid (overlay_calls l F A A2 n c F.length c2 w2 (HL.out.below h2) (h1.mono fun _ _ => trivial) hn (by omega))
  have HB2 := Lib.hid (HB.out.trans (h2.mono (by simp; omega)))
  clear HW h1 h2 HL HB
  go_wp2_with fail
  refine HO.out.mono ?_
  rintro e w3 ⟨v, rfl, h3, h4⟩
  obtain ⟨A3, c3, rfl, -⟩ := h3.form
  obtain ⟨k, hk⟩ : ∃ k, (overlay l F).length = k := ⟨_, rfl⟩
  rw [hk] at h3
  have hz3 := HB2.out.size
  have hlen3 := h3.length
  have hsl := fun j (hj : j ≤ c3) W' => run_slice_hi (P := Try.prog) (sz := 3) Try.underlying23 (by kernel_rfl) A3 (n := k) (k := j) hj W'
  have H3 := Lib.hid h3
  have H4 := Lib.hid (HB2.out.trans (h4.mono (by omega)))
  rw [hk]
  obtain ⟨hl3, hk3, -⟩ := hlen3
  have HLL := Lib.hid hl3
  clear HO h3 h4 hk hl3
  clear hsl
  go_wp2
  go_ret
  refine ⟨_, rfl, ?_, H4.out⟩
  have h := H3.out.take (k := (min (k : Int) (max most 0)).toNat) (by omega)
  have e : (overlay l F).take (min (k : Int) (max most 0)).toNat = (overlay l F).take (max most 0).toNat := by
    by_cases hk : (k : Int) ≤ max most 0
    · rw [List.take_of_length_le (by rw [HLL.out]; omega), List.take_of_length_le (by rw [HLL.out]; omega)]
    · congr 1; omega
  rw [e] at h
  exact h.mono fun b hb => by omega

abbrev setP (W : World) (z : Nat) (p : Pair) (b : Bool) : World := ((W.setCell ⟨z, 0, none⟩ (.string p.key)).setCell ⟨z, 1, none⟩ (.string p.val)).setCell ⟨z, 2, none⟩ (.bool b)
theorem setP_heap (W : World) (z : Nat) (p : Pair) (b : Bool) {k : Nat} (hk : k ≠ z) : (setP W z p b).heap[k]? = W.heap[k]? :=
  (Below.heap_setCell _ _ _ _ hk).trans ((Below.heap_setCell _ _ _ _ hk).trans (Below.heap_setCell _ _ _ _ hk))
theorem setP_below {B z : Nat} {w W : World} (h : Below B w W) (hz : B ≤ z) (p : Pair) (b : Bool) : Below B w (setP W z p b) :=
  ((h.setCell (p := ⟨z, 0, none⟩) hz _).setCell (p := ⟨z, 1, none⟩) hz _).setCell (p := ⟨z, 2, none⟩) hz _
/-- The document's Overlay goes by places. -/
theorem drop_cons {α : Type} {l : List α} {i : Nat} {x : α} (h : l[i]? = some x) : l.drop i = x :: l.drop (i + 1) := by
  obtain ⟨h1, rfl⟩ := List.getElem?_eq_some_iff.1 h
  exact List.drop_eq_getElem_cons h1

set_option maxHeartbeats 8000000 in
set_option maxRecDepth 100000 in
theorem roverlay_calls (l m : List Pair) (A B : Option Addr) (n c k d : Nat) (w : World) (hl : Sl tPair w (fun _ => True) (.slice A n c) l) (hm : Sl tPair w (fun _ => True) (.slice B k d) m) (hn : n ≤ 100000) (hk : k ≤ 100000) :
    Calls Try.prog 20 #[.slice A n c, .slice B k d] w fun e w' => ∃ v, e = .returned v ∧ Sl tPair w' (fun b => w.heap.size ≤ b) v (overlay l m) ∧ Below w.heap.size w w' := by
  have hln := hl.length.1
  have hlm := hm.length.1
  have HL := Lib.hid hl
  have HM := Lib.hid hm
  have hX := Lib.hid (Below.refl w.heap.size w)
  have hO0 := Lib.hid (Own.nil tPair w w.heap.size 52 none_)
  clear hl hm
  have HLN := Lib.hid hln
  have HLM := Lib.hid hlm
  clear hln hlm
  go_enter Try.func20, Try.ntmps20
  go_wp2
  go_loopw [5, 6, 7] (fun v i j wr => ∃ (a b : Nat) (O : List Pair), i = .int .i64 a ∧ j = .int .i64 b ∧ a ≤ n ∧ b ≤ k ∧ Hid (O ++ overlay (l.drop a) (m.drop b) = overlay l m) ∧ Hid (Own tPair wr w.heap.size 52 none_ v O) ∧ Hid (Below w.heap.size w wr) ∧ O.length ≤ a + b) (fun _ i j _ => n + k - (intOf i).toNat - (intOf j).toNat)
  case atStart => exact ⟨0, 0, [], rfl, rfl, by omega, by omega, by show _ = _; simp, hO0, hX, by simp⟩
  case round =>
    obtain ⟨a, b, O, rfl, rfl, ha, hb, heq, hO, hB, hlen⟩ := hrel
    by_cases hfin : a = n ∧ b = k
    · obtain ⟨rfl, rfl⟩ := hfin
      have hf : Hid (O = overlay l m) := by
        have := heq.out
        rw [List.drop_of_length_le (by rw [HLN.out]; exact Nat.le_refl _), List.drop_of_length_le (by rw [HLM.out]; exact Nat.le_refl _)] at this
        show _ = _
        simpa [overlay, merge] using this
      go_wp2
      go_ret
      refine ⟨_, rfl, ?_, hB.out⟩
      rw [← hf.out]
      exact hO.out.sl.mono fun b hb => hb.elim False.elim fun h => h.1
    · have hL1 := HL.out.below hB.out
      have hM1 := HM.out.below hB.out
      by_cases hbk : b = k
      · subst hbk
        have han : a < n := by omega
        obtain ⟨p, hp⟩ := some_at (show a < l.length by rw [HLN.out]; exact han)
        obtain ⟨g, off, rfl, hg, x0, x1, x2⟩ := sl_pair hL1 hp
        have hm1 : merge (l.drop a) (m.drop b) = p :: merge (l.drop (a + 1)) (m.drop b) := by
          rw [drop_cons hp, show m.drop b = [] from List.drop_of_length_le (by rw [HLM.out]; exact Nat.le_refl _), merge_nil, merge_nil]
        clear hp hL1 hM1 hfin
        have hst := overlay_step heq.out hm1
        clear hm1
        cases hd : p.dead
        · have HST := Lib.hid (hst.2 hd)
          have HD := Lib.hid hd
          rw [hd] at x2
          clear hst hd
          go_wp2
          go_quiet (fail)
          obtain ⟨W1, hW1⟩ : ∃ W1, (wr.alloc (.cells #[.string ⟨#[]⟩, .string ⟨#[]⟩, .bool false] 52)).drewN nq = W1 := ⟨_, rfl⟩
          have hP1 : Hid (Blk W1 wr.heap.size #[.string ⟨#[]⟩, .string ⟨#[]⟩, .bool false] 52) := by rw [← hW1]; exact (Blk.new wr _ 52).drewN _
          have hB1 : Hid (Below wr.heap.size wr W1) := by rw [← hW1]; exact below_drewN ((Below.refl _ _).alloc (Nat.le_refl _) _) _
          have hz1 : W1.heap.size = wr.heap.size + 1 := by rw [← hW1]; show (wr.alloc _).heap.size = _; simp
          rw [hW1]
          clear hW1
          have hcl : ∀ b o, b < wr.heap.size → W1.cell? ⟨b, o, none⟩ = wr.cell? ⟨b, o, none⟩ := fun b o h => hB1.out.cell (p := ⟨b, o, none⟩) h
          rw [← hcl _ _ hg] at x0 x1 x2
          clear hcl
          have q0 := hP1.out.cell 0
          have q1 := hP1.out.cell 1
          have q2 := hP1.out.cell 2
          have q3 := hP1.out.frozen 0
          have q4 := hP1.out.frozen 1
          have q5 := hP1.out.frozen 2
          have hBx : Hid (Below w.heap.size w (setP W1 wr.heap.size p false)) := setP_below (hB.out.trans (hB1.out.mono hB.out.size)) hB.out.size _ _
          have hOx : Hid (Own tPair (setP W1 wr.heap.size p false) w.heap.size 52 none_ u5 O) := own_same hO.out fun k hk => (setP_heap _ _ _ _ (by have := (hO.out.lo hk).2; omega)).trans (hB1.out.block k (hO.out.lo hk).2)
          have hKx : Hid (tPair.K (setP W1 wr.heap.size p false) (fun b => none_ b ∧ u5.ownBlock ≠ some b) p [.string p.key, .string p.val, .bool false]) := by
            show _ = p.enc; rw [Pair.enc, HD.out]
          go_wp2_with (at_builtin; go_loud (refine wpList_app1 (o := ⟨some 87, _, _, _, _, _⟩) (t := tPair) (w0 := w) (g := wr.heap.size + 1) (cs := [.string p.key, .string p.val, .bool false]) (y := p) w.heap.size rfl _ _ 23 52 _ 40 rfl Try.underlying23 info52 rfl (by decide) (by decide) rfl ?c1 rfl hOx.out hKx.out hBx.out ?c2 ?c3 ?_); (case c1 => simp [hz1]); (case c2 => exact hBx.out.size); (case c3 => omega); intro v1 w9 hO9 hB9 _ _)
          have hO9' := Lib.hid hO9
          have hB9' := Lib.hid hB9
          go_roundw
          case rel => exact ⟨a + 1, b, O ++ [p], by go_num, rfl, by omega, by omega, HST, hO9', hB9', by simp; omega⟩
          case measure => simp [intOf]; omega
        · have HST := Lib.hid (hst.1 hd)
          have HD := Lib.hid hd
          rw [hd] at x2
          clear hst hd
          go_wp2
          go_quiet (fail)
          obtain ⟨W1, hW1⟩ : ∃ W1, (wr.alloc (.cells #[.string ⟨#[]⟩, .string ⟨#[]⟩, .bool false] 52)).drewN nq = W1 := ⟨_, rfl⟩
          have hP1 : Hid (Blk W1 wr.heap.size #[.string ⟨#[]⟩, .string ⟨#[]⟩, .bool false] 52) := by rw [← hW1]; exact (Blk.new wr _ 52).drewN _
          have hB1 : Hid (Below wr.heap.size wr W1) := by rw [← hW1]; exact below_drewN ((Below.refl _ _).alloc (Nat.le_refl _) _) _
          have hz1 : W1.heap.size = wr.heap.size + 1 := by rw [← hW1]; show (wr.alloc _).heap.size = _; simp
          rw [hW1]
          clear hW1
          have hcl : ∀ b o, b < wr.heap.size → W1.cell? ⟨b, o, none⟩ = wr.cell? ⟨b, o, none⟩ := fun b o h => hB1.out.cell (p := ⟨b, o, none⟩) h
          rw [← hcl _ _ hg] at x0 x1 x2
          clear hcl
          have q0 := hP1.out.cell 0
          have q1 := hP1.out.cell 1
          have q2 := hP1.out.cell 2
          have q3 := hP1.out.frozen 0
          have q4 := hP1.out.frozen 1
          have q5 := hP1.out.frozen 2
          go_wp2
          have hBx : Hid (Below w.heap.size w (setP W1 wr.heap.size p true)) := setP_below (hB.out.trans (hB1.out.mono hB.out.size)) hB.out.size _ _
          have hOx : Hid (Own tPair (setP W1 wr.heap.size p true) w.heap.size 52 none_ u5 O) := own_same hO.out fun k hk => (setP_heap _ _ _ _ (by have := (hO.out.lo hk).2; omega)).trans (hB1.out.block k (hO.out.lo hk).2)
          go_roundw
          case rel => exact ⟨a + 1, b, O, by go_num, rfl, by omega, by omega, HST, hOx, hBx, by omega⟩
          case measure => simp [intOf]; omega
      · have hbk' : b < k := by omega
        have hbk2 : ((b : Int) == (k : Int)) = false := by simp; omega
        by_cases han : a = n
        · subst han
          clear hbk
          obtain ⟨q, hq⟩ := some_at (show b < m.length by rw [HLM.out]; exact hbk')
          obtain ⟨g2, off2, rfl, hg2, y0, y1, y2⟩ := sl_pair hM1 hq
          have hm1 : merge (l.drop a) (m.drop b) = q :: merge (l.drop a) (m.drop (b + 1)) := by
            rw [drop_cons hq, show l.drop a = [] from List.drop_of_length_le (by rw [HLN.out]; exact Nat.le_refl _), nil_merge, nil_merge]
          clear hq hL1 hM1 hfin
          have hst := overlay_step heq.out hm1
          clear hm1
          cases hd : q.dead
          · have HST := Lib.hid (hst.2 hd)
            have HD := Lib.hid hd
            rw [hd] at y2
            clear hst hd
            go_wp2
            go_quiet (fail)
            obtain ⟨W1, hW1⟩ : ∃ W1, (wr.alloc (.cells #[.string ⟨#[]⟩, .string ⟨#[]⟩, .bool false] 52)).drewN nq = W1 := ⟨_, rfl⟩
            have hP1 : Hid (Blk W1 wr.heap.size #[.string ⟨#[]⟩, .string ⟨#[]⟩, .bool false] 52) := by rw [← hW1]; exact (Blk.new wr _ 52).drewN _
            have hB1 : Hid (Below wr.heap.size wr W1) := by rw [← hW1]; exact below_drewN ((Below.refl _ _).alloc (Nat.le_refl _) _) _
            have hz1 : W1.heap.size = wr.heap.size + 1 := by rw [← hW1]; show (wr.alloc _).heap.size = _; simp
            rw [hW1]
            clear hW1
            have hcl : ∀ b o, b < wr.heap.size → W1.cell? ⟨b, o, none⟩ = wr.cell? ⟨b, o, none⟩ := fun b o h => hB1.out.cell (p := ⟨b, o, none⟩) h
            rw [← hcl _ _ hg2] at y0 y1 y2
            clear hcl
            go_wp2
            go_quiet (fail)
            obtain ⟨W2, hW2⟩ : ∃ W2, W1.drewN nq = W2 := ⟨_, rfl⟩
            have hP2 : Hid (Blk W2 wr.heap.size #[.string ⟨#[]⟩, .string ⟨#[]⟩, .bool false] 52) := by rw [← hW2]; exact hP1.out.drewN _
            have hB2 : Hid (Below wr.heap.size wr W2) := by rw [← hW2]; exact below_drewN hB1.out _
            have hz2 : W2.heap.size = wr.heap.size + 1 := by rw [← hW2]; exact hz1
            rw [hW2]
            clear hW2
            have hcl : ∀ b o, b < wr.heap.size → W2.cell? ⟨b, o, none⟩ = wr.cell? ⟨b, o, none⟩ := fun b o h => hB2.out.cell (p := ⟨b, o, none⟩) h
            rw [show W1.cell? _ = W2.cell? _ from (hB1.out.cell (p := ⟨_, _, none⟩) hg2).trans (hcl _ _ hg2).symm] at y0
            rw [show W1.cell? _ = W2.cell? _ from (hB1.out.cell (p := ⟨_, _, none⟩) hg2).trans (hcl _ _ hg2).symm] at y1
            rw [show W1.cell? _ = W2.cell? _ from (hB1.out.cell (p := ⟨_, _, none⟩) hg2).trans (hcl _ _ hg2).symm] at y2
            clear hcl
            have q0 := hP2.out.cell 0
            have q1 := hP2.out.cell 1
            have q2 := hP2.out.cell 2
            have q3 := hP2.out.frozen 0
            have q4 := hP2.out.frozen 1
            have q5 := hP2.out.frozen 2
            have hBx : Hid (Below w.heap.size w (setP W2 wr.heap.size q false)) := setP_below (hB.out.trans (hB2.out.mono hB.out.size)) hB.out.size _ _
            have hOx : Hid (Own tPair (setP W2 wr.heap.size q false) w.heap.size 52 none_ u5 O) := own_same hO.out fun k hk => (setP_heap _ _ _ _ (by have := (hO.out.lo hk).2; omega)).trans (hB2.out.block k (hO.out.lo hk).2)
            have hKx : Hid (tPair.K (setP W2 wr.heap.size q false) (fun b => none_ b ∧ u5.ownBlock ≠ some b) q [.string q.key, .string q.val, .bool false]) := by
              show _ = q.enc; rw [Pair.enc, HD.out]
            go_wp2_with (at_builtin; go_loud (refine wpList_app1 (o := ⟨some 87, _, _, _, _, _⟩) (t := tPair) (w0 := w) (g := wr.heap.size + 1) (cs := [.string q.key, .string q.val, .bool false]) (y := q) w.heap.size rfl _ _ 23 52 _ 40 rfl Try.underlying23 info52 rfl (by decide) (by decide) rfl ?c1 rfl hOx.out hKx.out hBx.out ?c2 ?c3 ?_); (case c1 => simp [hz2]); (case c2 => exact hBx.out.size); (case c3 => omega); intro v1 w9 hO9 hB9 _ _)
            have hO9' := Lib.hid hO9
            have hB9' := Lib.hid hB9
            go_roundw
            case rel => exact ⟨a, b + 1, O ++ [q], rfl, by go_num, by omega, by omega, HST, hO9', hB9', by simp; omega⟩
            case measure => simp [intOf]; omega
          · have HST := Lib.hid (hst.1 hd)
            have HD := Lib.hid hd
            rw [hd] at y2
            clear hst hd
            go_wp2
            go_quiet (fail)
            obtain ⟨W1, hW1⟩ : ∃ W1, (wr.alloc (.cells #[.string ⟨#[]⟩, .string ⟨#[]⟩, .bool false] 52)).drewN nq = W1 := ⟨_, rfl⟩
            have hP1 : Hid (Blk W1 wr.heap.size #[.string ⟨#[]⟩, .string ⟨#[]⟩, .bool false] 52) := by rw [← hW1]; exact (Blk.new wr _ 52).drewN _
            have hB1 : Hid (Below wr.heap.size wr W1) := by rw [← hW1]; exact below_drewN ((Below.refl _ _).alloc (Nat.le_refl _) _) _
            have hz1 : W1.heap.size = wr.heap.size + 1 := by rw [← hW1]; show (wr.alloc _).heap.size = _; simp
            rw [hW1]
            clear hW1
            have hcl : ∀ b o, b < wr.heap.size → W1.cell? ⟨b, o, none⟩ = wr.cell? ⟨b, o, none⟩ := fun b o h => hB1.out.cell (p := ⟨b, o, none⟩) h
            rw [← hcl _ _ hg2] at y0 y1 y2
            clear hcl
            go_wp2
            go_quiet (fail)
            obtain ⟨W2, hW2⟩ : ∃ W2, W1.drewN nq = W2 := ⟨_, rfl⟩
            have hP2 : Hid (Blk W2 wr.heap.size #[.string ⟨#[]⟩, .string ⟨#[]⟩, .bool false] 52) := by rw [← hW2]; exact hP1.out.drewN _
            have hB2 : Hid (Below wr.heap.size wr W2) := by rw [← hW2]; exact below_drewN hB1.out _
            have hz2 : W2.heap.size = wr.heap.size + 1 := by rw [← hW2]; exact hz1
            rw [hW2]
            clear hW2
            have hcl : ∀ b o, b < wr.heap.size → W2.cell? ⟨b, o, none⟩ = wr.cell? ⟨b, o, none⟩ := fun b o h => hB2.out.cell (p := ⟨b, o, none⟩) h
            rw [show W1.cell? _ = W2.cell? _ from (hB1.out.cell (p := ⟨_, _, none⟩) hg2).trans (hcl _ _ hg2).symm] at y0
            rw [show W1.cell? _ = W2.cell? _ from (hB1.out.cell (p := ⟨_, _, none⟩) hg2).trans (hcl _ _ hg2).symm] at y1
            rw [show W1.cell? _ = W2.cell? _ from (hB1.out.cell (p := ⟨_, _, none⟩) hg2).trans (hcl _ _ hg2).symm] at y2
            clear hcl
            have q0 := hP2.out.cell 0
            have q1 := hP2.out.cell 1
            have q2 := hP2.out.cell 2
            have q3 := hP2.out.frozen 0
            have q4 := hP2.out.frozen 1
            have q5 := hP2.out.frozen 2
            go_wp2
            have hBx : Hid (Below w.heap.size w (setP W2 wr.heap.size q true)) := setP_below (hB.out.trans (hB2.out.mono hB.out.size)) hB.out.size _ _
            have hOx : Hid (Own tPair (setP W2 wr.heap.size q true) w.heap.size 52 none_ u5 O) := own_same hO.out fun k hk => (setP_heap _ _ _ _ (by have := (hO.out.lo hk).2; omega)).trans (hB2.out.block k (hO.out.lo hk).2)
            go_roundw
            case rel => exact ⟨a, b + 1, O, rfl, by go_num, by omega, by omega, HST, hOx, hBx, by omega⟩
            case measure => simp [intOf]; omega
        · have han' : a < n := by omega
          clear hbk han
          obtain ⟨p, hp⟩ := some_at (show a < l.length by rw [HLN.out]; exact han')
          obtain ⟨g, off, rfl, hg, x0, x1, x2⟩ := sl_pair hL1 hp
          obtain ⟨q, hq⟩ := some_at (show b < m.length by rw [HLM.out]; exact hbk')
          obtain ⟨g2, off2, rfl, hg2, y0, y1, y2⟩ := sl_pair hM1 hq
          have hdr := drop_cons hp
          have hdq := drop_cons hq
          clear hp hq hL1 hM1 hfin
          rcases klt_cases p.key q.key with ⟨h1, h2, h3⟩ | ⟨h1, h2, h3⟩ | ⟨h1, h2, h3⟩
          · have hm1 : merge (l.drop a) (m.drop b) = p :: merge (l.drop (a + 1)) (m.drop b) := by rw [hdr, hdq, merge_lt h1]
            unfold klt at h1
            clear hdr hdq h2 h3
            have hst := overlay_step heq.out hm1
            clear hm1
            cases hd : p.dead
            · have HST := Lib.hid (hst.2 hd)
              have HD := Lib.hid hd
              rw [hd] at x2
              clear hst hd
              go_wp2
              go_quiet (fail)
              obtain ⟨W1, hW1⟩ : ∃ W1, (wr.alloc (.cells #[.string ⟨#[]⟩, .string ⟨#[]⟩, .bool false] 52)).drewN nq = W1 := ⟨_, rfl⟩
              have hP1 : Hid (Blk W1 wr.heap.size #[.string ⟨#[]⟩, .string ⟨#[]⟩, .bool false] 52) := by rw [← hW1]; exact (Blk.new wr _ 52).drewN _
              have hB1 : Hid (Below wr.heap.size wr W1) := by rw [← hW1]; exact below_drewN ((Below.refl _ _).alloc (Nat.le_refl _) _) _
              have hz1 : W1.heap.size = wr.heap.size + 1 := by rw [← hW1]; show (wr.alloc _).heap.size = _; simp
              rw [hW1]
              clear hW1
              have hcl : ∀ b o, b < wr.heap.size → W1.cell? ⟨b, o, none⟩ = wr.cell? ⟨b, o, none⟩ := fun b o h => hB1.out.cell (p := ⟨b, o, none⟩) h
              rw [← hcl _ _ hg] at x0 x1 x2
              rw [← hcl _ _ hg2] at y0 y1 y2
              clear hcl
              have q0 := hP1.out.cell 0
              have q1 := hP1.out.cell 1
              have q2 := hP1.out.cell 2
              have q3 := hP1.out.frozen 0
              have q4 := hP1.out.frozen 1
              have q5 := hP1.out.frozen 2
              have hBx : Hid (Below w.heap.size w (setP W1 wr.heap.size p false)) := setP_below (hB.out.trans (hB1.out.mono hB.out.size)) hB.out.size _ _
              have hOx : Hid (Own tPair (setP W1 wr.heap.size p false) w.heap.size 52 none_ u5 O) := own_same hO.out fun k hk => (setP_heap _ _ _ _ (by have := (hO.out.lo hk).2; omega)).trans (hB1.out.block k (hO.out.lo hk).2)
              have hKx : Hid (tPair.K (setP W1 wr.heap.size p false) (fun b => none_ b ∧ u5.ownBlock ≠ some b) p [.string p.key, .string p.val, .bool false]) := by
                show _ = p.enc; rw [Pair.enc, HD.out]
              go_wp2_with (at_builtin; go_loud (refine wpList_app1 (o := ⟨some 87, _, _, _, _, _⟩) (t := tPair) (w0 := w) (g := wr.heap.size + 1) (cs := [.string p.key, .string p.val, .bool false]) (y := p) w.heap.size rfl _ _ 23 52 _ 40 rfl Try.underlying23 info52 rfl (by decide) (by decide) rfl ?c1 rfl hOx.out hKx.out hBx.out ?c2 ?c3 ?_); (case c1 => simp [hz1]); (case c2 => exact hBx.out.size); (case c3 => omega); intro v1 w9 hO9 hB9 _ _)
              have hO9' := Lib.hid hO9
              have hB9' := Lib.hid hB9
              go_roundw
              case rel => exact ⟨a + 1, b, O ++ [p], by go_num, rfl, by omega, by omega, HST, hO9', hB9', by simp; omega⟩
              case measure => simp [intOf]; omega
            · have HST := Lib.hid (hst.1 hd)
              have HD := Lib.hid hd
              rw [hd] at x2
              clear hst hd
              go_wp2
              go_quiet (fail)
              obtain ⟨W1, hW1⟩ : ∃ W1, (wr.alloc (.cells #[.string ⟨#[]⟩, .string ⟨#[]⟩, .bool false] 52)).drewN nq = W1 := ⟨_, rfl⟩
              have hP1 : Hid (Blk W1 wr.heap.size #[.string ⟨#[]⟩, .string ⟨#[]⟩, .bool false] 52) := by rw [← hW1]; exact (Blk.new wr _ 52).drewN _
              have hB1 : Hid (Below wr.heap.size wr W1) := by rw [← hW1]; exact below_drewN ((Below.refl _ _).alloc (Nat.le_refl _) _) _
              have hz1 : W1.heap.size = wr.heap.size + 1 := by rw [← hW1]; show (wr.alloc _).heap.size = _; simp
              rw [hW1]
              clear hW1
              have hcl : ∀ b o, b < wr.heap.size → W1.cell? ⟨b, o, none⟩ = wr.cell? ⟨b, o, none⟩ := fun b o h => hB1.out.cell (p := ⟨b, o, none⟩) h
              rw [← hcl _ _ hg] at x0 x1 x2
              rw [← hcl _ _ hg2] at y0 y1 y2
              clear hcl
              have q0 := hP1.out.cell 0
              have q1 := hP1.out.cell 1
              have q2 := hP1.out.cell 2
              have q3 := hP1.out.frozen 0
              have q4 := hP1.out.frozen 1
              have q5 := hP1.out.frozen 2
              go_wp2
              have hBx : Hid (Below w.heap.size w (setP W1 wr.heap.size p true)) := setP_below (hB.out.trans (hB1.out.mono hB.out.size)) hB.out.size _ _
              have hOx : Hid (Own tPair (setP W1 wr.heap.size p true) w.heap.size 52 none_ u5 O) := own_same hO.out fun k hk => (setP_heap _ _ _ _ (by have := (hO.out.lo hk).2; omega)).trans (hB1.out.block k (hO.out.lo hk).2)
              go_roundw
              case rel => exact ⟨a + 1, b, O, by go_num, rfl, by omega, by omega, HST, hOx, hBx, by omega⟩
              case measure => simp [intOf]; omega
          · have h4 : (p.key.toList == q.key.toList) = true := by rw [beq_key]; simpa using h1
            have hm1 : merge (l.drop a) (m.drop b) = q :: merge (l.drop (a + 1)) (m.drop (b + 1)) := by rw [hdr, hdq, merge_eq h2 h4]
            unfold klt at h2
            clear hdr hdq h1 h3
            have hst := overlay_step heq.out hm1
            clear hm1
            cases hd : q.dead
            · have HST := Lib.hid (hst.2 hd)
              have HD := Lib.hid hd
              rw [hd] at y2
              clear hst hd
              go_wp2
              go_quiet (fail)
              obtain ⟨W1, hW1⟩ : ∃ W1, (wr.alloc (.cells #[.string ⟨#[]⟩, .string ⟨#[]⟩, .bool false] 52)).drewN nq = W1 := ⟨_, rfl⟩
              have hP1 : Hid (Blk W1 wr.heap.size #[.string ⟨#[]⟩, .string ⟨#[]⟩, .bool false] 52) := by rw [← hW1]; exact (Blk.new wr _ 52).drewN _
              have hB1 : Hid (Below wr.heap.size wr W1) := by rw [← hW1]; exact below_drewN ((Below.refl _ _).alloc (Nat.le_refl _) _) _
              have hz1 : W1.heap.size = wr.heap.size + 1 := by rw [← hW1]; show (wr.alloc _).heap.size = _; simp
              rw [hW1]
              clear hW1
              have hcl : ∀ b o, b < wr.heap.size → W1.cell? ⟨b, o, none⟩ = wr.cell? ⟨b, o, none⟩ := fun b o h => hB1.out.cell (p := ⟨b, o, none⟩) h
              rw [← hcl _ _ hg] at x0 x1 x2
              rw [← hcl _ _ hg2] at y0 y1 y2
              clear hcl
              go_wp2
              go_quiet (fail)
              obtain ⟨W2, hW2⟩ : ∃ W2, W1.drewN nq = W2 := ⟨_, rfl⟩
              have hP2 : Hid (Blk W2 wr.heap.size #[.string ⟨#[]⟩, .string ⟨#[]⟩, .bool false] 52) := by rw [← hW2]; exact hP1.out.drewN _
              have hB2 : Hid (Below wr.heap.size wr W2) := by rw [← hW2]; exact below_drewN hB1.out _
              have hz2 : W2.heap.size = wr.heap.size + 1 := by rw [← hW2]; exact hz1
              rw [hW2]
              clear hW2
              have hcl : ∀ b o, b < wr.heap.size → W2.cell? ⟨b, o, none⟩ = wr.cell? ⟨b, o, none⟩ := fun b o h => hB2.out.cell (p := ⟨b, o, none⟩) h
              rw [show W1.cell? _ = W2.cell? _ from (hB1.out.cell (p := ⟨_, _, none⟩) hg).trans (hcl _ _ hg).symm] at x0
              rw [show W1.cell? _ = W2.cell? _ from (hB1.out.cell (p := ⟨_, _, none⟩) hg).trans (hcl _ _ hg).symm] at x1
              rw [show W1.cell? _ = W2.cell? _ from (hB1.out.cell (p := ⟨_, _, none⟩) hg).trans (hcl _ _ hg).symm] at x2
              rw [show W1.cell? _ = W2.cell? _ from (hB1.out.cell (p := ⟨_, _, none⟩) hg2).trans (hcl _ _ hg2).symm] at y0
              rw [show W1.cell? _ = W2.cell? _ from (hB1.out.cell (p := ⟨_, _, none⟩) hg2).trans (hcl _ _ hg2).symm] at y1
              rw [show W1.cell? _ = W2.cell? _ from (hB1.out.cell (p := ⟨_, _, none⟩) hg2).trans (hcl _ _ hg2).symm] at y2
              clear hcl
              have q0 := hP2.out.cell 0
              have q1 := hP2.out.cell 1
              have q2 := hP2.out.cell 2
              have q3 := hP2.out.frozen 0
              have q4 := hP2.out.frozen 1
              have q5 := hP2.out.frozen 2
              have hBx : Hid (Below w.heap.size w (setP W2 wr.heap.size q false)) := setP_below (hB.out.trans (hB2.out.mono hB.out.size)) hB.out.size _ _
              have hOx : Hid (Own tPair (setP W2 wr.heap.size q false) w.heap.size 52 none_ u5 O) := own_same hO.out fun k hk => (setP_heap _ _ _ _ (by have := (hO.out.lo hk).2; omega)).trans (hB2.out.block k (hO.out.lo hk).2)
              have hKx : Hid (tPair.K (setP W2 wr.heap.size q false) (fun b => none_ b ∧ u5.ownBlock ≠ some b) q [.string q.key, .string q.val, .bool false]) := by
                show _ = q.enc; rw [Pair.enc, HD.out]
              go_wp2_with (at_builtin; go_loud (refine wpList_app1 (o := ⟨some 87, _, _, _, _, _⟩) (t := tPair) (w0 := w) (g := wr.heap.size + 1) (cs := [.string q.key, .string q.val, .bool false]) (y := q) w.heap.size rfl _ _ 23 52 _ 40 rfl Try.underlying23 info52 rfl (by decide) (by decide) rfl ?c1 rfl hOx.out hKx.out hBx.out ?c2 ?c3 ?_); (case c1 => simp [hz2]); (case c2 => exact hBx.out.size); (case c3 => omega); intro v1 w9 hO9 hB9 _ _)
              have hO9' := Lib.hid hO9
              have hB9' := Lib.hid hB9
              go_roundw
              case rel => exact ⟨a + 1, b + 1, O ++ [q], by go_num, by go_num, by omega, by omega, HST, hO9', hB9', by simp; omega⟩
              case measure => simp [intOf]; omega
            · have HST := Lib.hid (hst.1 hd)
              have HD := Lib.hid hd
              rw [hd] at y2
              clear hst hd
              go_wp2
              go_quiet (fail)
              obtain ⟨W1, hW1⟩ : ∃ W1, (wr.alloc (.cells #[.string ⟨#[]⟩, .string ⟨#[]⟩, .bool false] 52)).drewN nq = W1 := ⟨_, rfl⟩
              have hP1 : Hid (Blk W1 wr.heap.size #[.string ⟨#[]⟩, .string ⟨#[]⟩, .bool false] 52) := by rw [← hW1]; exact (Blk.new wr _ 52).drewN _
              have hB1 : Hid (Below wr.heap.size wr W1) := by rw [← hW1]; exact below_drewN ((Below.refl _ _).alloc (Nat.le_refl _) _) _
              have hz1 : W1.heap.size = wr.heap.size + 1 := by rw [← hW1]; show (wr.alloc _).heap.size = _; simp
              rw [hW1]
              clear hW1
              have hcl : ∀ b o, b < wr.heap.size → W1.cell? ⟨b, o, none⟩ = wr.cell? ⟨b, o, none⟩ := fun b o h => hB1.out.cell (p := ⟨b, o, none⟩) h
              rw [← hcl _ _ hg] at x0 x1 x2
              rw [← hcl _ _ hg2] at y0 y1 y2
              clear hcl
              go_wp2
              go_quiet (fail)
              obtain ⟨W2, hW2⟩ : ∃ W2, W1.drewN nq = W2 := ⟨_, rfl⟩
              have hP2 : Hid (Blk W2 wr.heap.size #[.string ⟨#[]⟩, .string ⟨#[]⟩, .bool false] 52) := by rw [← hW2]; exact hP1.out.drewN _
              have hB2 : Hid (Below wr.heap.size wr W2) := by rw [← hW2]; exact below_drewN hB1.out _
              have hz2 : W2.heap.size = wr.heap.size + 1 := by rw [← hW2]; exact hz1
              rw [hW2]
              clear hW2
              have hcl : ∀ b o, b < wr.heap.size → W2.cell? ⟨b, o, none⟩ = wr.cell? ⟨b, o, none⟩ := fun b o h => hB2.out.cell (p := ⟨b, o, none⟩) h
              rw [show W1.cell? _ = W2.cell? _ from (hB1.out.cell (p := ⟨_, _, none⟩) hg).trans (hcl _ _ hg).symm] at x0
              rw [show W1.cell? _ = W2.cell? _ from (hB1.out.cell (p := ⟨_, _, none⟩) hg).trans (hcl _ _ hg).symm] at x1
              rw [show W1.cell? _ = W2.cell? _ from (hB1.out.cell (p := ⟨_, _, none⟩) hg).trans (hcl _ _ hg).symm] at x2
              rw [show W1.cell? _ = W2.cell? _ from (hB1.out.cell (p := ⟨_, _, none⟩) hg2).trans (hcl _ _ hg2).symm] at y0
              rw [show W1.cell? _ = W2.cell? _ from (hB1.out.cell (p := ⟨_, _, none⟩) hg2).trans (hcl _ _ hg2).symm] at y1
              rw [show W1.cell? _ = W2.cell? _ from (hB1.out.cell (p := ⟨_, _, none⟩) hg2).trans (hcl _ _ hg2).symm] at y2
              clear hcl
              have q0 := hP2.out.cell 0
              have q1 := hP2.out.cell 1
              have q2 := hP2.out.cell 2
              have q3 := hP2.out.frozen 0
              have q4 := hP2.out.frozen 1
              have q5 := hP2.out.frozen 2
              go_wp2
              have hBx : Hid (Below w.heap.size w (setP W2 wr.heap.size q true)) := setP_below (hB.out.trans (hB2.out.mono hB.out.size)) hB.out.size _ _
              have hOx : Hid (Own tPair (setP W2 wr.heap.size q true) w.heap.size 52 none_ u5 O) := own_same hO.out fun k hk => (setP_heap _ _ _ _ (by have := (hO.out.lo hk).2; omega)).trans (hB2.out.block k (hO.out.lo hk).2)
              go_roundw
              case rel => exact ⟨a + 1, b + 1, O, by go_num, by go_num, by omega, by omega, HST, hOx, hBx, by omega⟩
              case measure => simp [intOf]; omega
          · have h4 : (p.key.toList == q.key.toList) = false := by rw [beq_key]; simpa using h3
            have hm1 : merge (l.drop a) (m.drop b) = q :: merge (l.drop a) (m.drop (b + 1)) := by rw [hdq, hdr, merge_gt h1 h4]
            unfold klt at h1
            clear hdr hdq h2 h3
            have hst := overlay_step heq.out hm1
            clear hm1
            cases hd : q.dead
            · have HST := Lib.hid (hst.2 hd)
              have HD := Lib.hid hd
              rw [hd] at y2
              clear hst hd
              go_wp2
              go_quiet (fail)
              obtain ⟨W1, hW1⟩ : ∃ W1, (wr.alloc (.cells #[.string ⟨#[]⟩, .string ⟨#[]⟩, .bool false] 52)).drewN nq = W1 := ⟨_, rfl⟩
              have hP1 : Hid (Blk W1 wr.heap.size #[.string ⟨#[]⟩, .string ⟨#[]⟩, .bool false] 52) := by rw [← hW1]; exact (Blk.new wr _ 52).drewN _
              have hB1 : Hid (Below wr.heap.size wr W1) := by rw [← hW1]; exact below_drewN ((Below.refl _ _).alloc (Nat.le_refl _) _) _
              have hz1 : W1.heap.size = wr.heap.size + 1 := by rw [← hW1]; show (wr.alloc _).heap.size = _; simp
              rw [hW1]
              clear hW1
              have hcl : ∀ b o, b < wr.heap.size → W1.cell? ⟨b, o, none⟩ = wr.cell? ⟨b, o, none⟩ := fun b o h => hB1.out.cell (p := ⟨b, o, none⟩) h
              rw [← hcl _ _ hg] at x0 x1 x2
              rw [← hcl _ _ hg2] at y0 y1 y2
              clear hcl
              go_wp2
              go_quiet (fail)
              obtain ⟨W2, hW2⟩ : ∃ W2, W1.drewN nq = W2 := ⟨_, rfl⟩
              have hP2 : Hid (Blk W2 wr.heap.size #[.string ⟨#[]⟩, .string ⟨#[]⟩, .bool false] 52) := by rw [← hW2]; exact hP1.out.drewN _
              have hB2 : Hid (Below wr.heap.size wr W2) := by rw [← hW2]; exact below_drewN hB1.out _
              have hz2 : W2.heap.size = wr.heap.size + 1 := by rw [← hW2]; exact hz1
              rw [hW2]
              clear hW2
              have hcl : ∀ b o, b < wr.heap.size → W2.cell? ⟨b, o, none⟩ = wr.cell? ⟨b, o, none⟩ := fun b o h => hB2.out.cell (p := ⟨b, o, none⟩) h
              rw [show W1.cell? _ = W2.cell? _ from (hB1.out.cell (p := ⟨_, _, none⟩) hg).trans (hcl _ _ hg).symm] at x0
              rw [show W1.cell? _ = W2.cell? _ from (hB1.out.cell (p := ⟨_, _, none⟩) hg).trans (hcl _ _ hg).symm] at x1
              rw [show W1.cell? _ = W2.cell? _ from (hB1.out.cell (p := ⟨_, _, none⟩) hg).trans (hcl _ _ hg).symm] at x2
              rw [show W1.cell? _ = W2.cell? _ from (hB1.out.cell (p := ⟨_, _, none⟩) hg2).trans (hcl _ _ hg2).symm] at y0
              rw [show W1.cell? _ = W2.cell? _ from (hB1.out.cell (p := ⟨_, _, none⟩) hg2).trans (hcl _ _ hg2).symm] at y1
              rw [show W1.cell? _ = W2.cell? _ from (hB1.out.cell (p := ⟨_, _, none⟩) hg2).trans (hcl _ _ hg2).symm] at y2
              clear hcl
              have q0 := hP2.out.cell 0
              have q1 := hP2.out.cell 1
              have q2 := hP2.out.cell 2
              have q3 := hP2.out.frozen 0
              have q4 := hP2.out.frozen 1
              have q5 := hP2.out.frozen 2
              have hBx : Hid (Below w.heap.size w (setP W2 wr.heap.size q false)) := setP_below (hB.out.trans (hB2.out.mono hB.out.size)) hB.out.size _ _
              have hOx : Hid (Own tPair (setP W2 wr.heap.size q false) w.heap.size 52 none_ u5 O) := own_same hO.out fun k hk => (setP_heap _ _ _ _ (by have := (hO.out.lo hk).2; omega)).trans (hB2.out.block k (hO.out.lo hk).2)
              have hKx : Hid (tPair.K (setP W2 wr.heap.size q false) (fun b => none_ b ∧ u5.ownBlock ≠ some b) q [.string q.key, .string q.val, .bool false]) := by
                show _ = q.enc; rw [Pair.enc, HD.out]
              go_wp2_with (at_builtin; go_loud (refine wpList_app1 (o := ⟨some 87, _, _, _, _, _⟩) (t := tPair) (w0 := w) (g := wr.heap.size + 1) (cs := [.string q.key, .string q.val, .bool false]) (y := q) w.heap.size rfl _ _ 23 52 _ 40 rfl Try.underlying23 info52 rfl (by decide) (by decide) rfl ?c1 rfl hOx.out hKx.out hBx.out ?c2 ?c3 ?_); (case c1 => simp [hz2]); (case c2 => exact hBx.out.size); (case c3 => omega); intro v1 w9 hO9 hB9 _ _)
              have hO9' := Lib.hid hO9
              have hB9' := Lib.hid hB9
              go_roundw
              case rel => exact ⟨a, b + 1, O ++ [q], rfl, by go_num, by omega, by omega, HST, hO9', hB9', by simp; omega⟩
              case measure => simp [intOf]; omega
            · have HST := Lib.hid (hst.1 hd)
              have HD := Lib.hid hd
              rw [hd] at y2
              clear hst hd
              go_wp2
              go_quiet (fail)
              obtain ⟨W1, hW1⟩ : ∃ W1, (wr.alloc (.cells #[.string ⟨#[]⟩, .string ⟨#[]⟩, .bool false] 52)).drewN nq = W1 := ⟨_, rfl⟩
              have hP1 : Hid (Blk W1 wr.heap.size #[.string ⟨#[]⟩, .string ⟨#[]⟩, .bool false] 52) := by rw [← hW1]; exact (Blk.new wr _ 52).drewN _
              have hB1 : Hid (Below wr.heap.size wr W1) := by rw [← hW1]; exact below_drewN ((Below.refl _ _).alloc (Nat.le_refl _) _) _
              have hz1 : W1.heap.size = wr.heap.size + 1 := by rw [← hW1]; show (wr.alloc _).heap.size = _; simp
              rw [hW1]
              clear hW1
              have hcl : ∀ b o, b < wr.heap.size → W1.cell? ⟨b, o, none⟩ = wr.cell? ⟨b, o, none⟩ := fun b o h => hB1.out.cell (p := ⟨b, o, none⟩) h
              rw [← hcl _ _ hg] at x0 x1 x2
              rw [← hcl _ _ hg2] at y0 y1 y2
              clear hcl
              go_wp2
              go_quiet (fail)
              obtain ⟨W2, hW2⟩ : ∃ W2, W1.drewN nq = W2 := ⟨_, rfl⟩
              have hP2 : Hid (Blk W2 wr.heap.size #[.string ⟨#[]⟩, .string ⟨#[]⟩, .bool false] 52) := by rw [← hW2]; exact hP1.out.drewN _
              have hB2 : Hid (Below wr.heap.size wr W2) := by rw [← hW2]; exact below_drewN hB1.out _
              have hz2 : W2.heap.size = wr.heap.size + 1 := by rw [← hW2]; exact hz1
              rw [hW2]
              clear hW2
              have hcl : ∀ b o, b < wr.heap.size → W2.cell? ⟨b, o, none⟩ = wr.cell? ⟨b, o, none⟩ := fun b o h => hB2.out.cell (p := ⟨b, o, none⟩) h
              rw [show W1.cell? _ = W2.cell? _ from (hB1.out.cell (p := ⟨_, _, none⟩) hg).trans (hcl _ _ hg).symm] at x0
              rw [show W1.cell? _ = W2.cell? _ from (hB1.out.cell (p := ⟨_, _, none⟩) hg).trans (hcl _ _ hg).symm] at x1
              rw [show W1.cell? _ = W2.cell? _ from (hB1.out.cell (p := ⟨_, _, none⟩) hg).trans (hcl _ _ hg).symm] at x2
              rw [show W1.cell? _ = W2.cell? _ from (hB1.out.cell (p := ⟨_, _, none⟩) hg2).trans (hcl _ _ hg2).symm] at y0
              rw [show W1.cell? _ = W2.cell? _ from (hB1.out.cell (p := ⟨_, _, none⟩) hg2).trans (hcl _ _ hg2).symm] at y1
              rw [show W1.cell? _ = W2.cell? _ from (hB1.out.cell (p := ⟨_, _, none⟩) hg2).trans (hcl _ _ hg2).symm] at y2
              clear hcl
              have q0 := hP2.out.cell 0
              have q1 := hP2.out.cell 1
              have q2 := hP2.out.cell 2
              have q3 := hP2.out.frozen 0
              have q4 := hP2.out.frozen 1
              have q5 := hP2.out.frozen 2
              go_wp2
              have hBx : Hid (Below w.heap.size w (setP W2 wr.heap.size q true)) := setP_below (hB.out.trans (hB2.out.mono hB.out.size)) hB.out.size _ _
              have hOx : Hid (Own tPair (setP W2 wr.heap.size q true) w.heap.size 52 none_ u5 O) := own_same hO.out fun k hk => (setP_heap _ _ _ _ (by have := (hO.out.lo hk).2; omega)).trans (hB2.out.block k (hO.out.lo hk).2)
              go_roundw
              case rel => exact ⟨a, b + 1, O, rfl, by go_num, by omega, by omega, HST, hOx, hBx, by omega⟩
              case measure => simp [intOf]; omega
end Go.Proofs.Ytkfndmbnfhhbiaa
