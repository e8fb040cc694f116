import Derived.Test.YtkfndmbnfhhbiaaW11
/-! A buffer that no call made. -/
namespace Go.Proofs.Ytkfndmbnfhhbiaa
open Go.RowKit Go.Op

/-- nil, or a buffer without a map. -/
def NoB (w : World) (o : Option Addr) : Prop := o = none ∨ ∃ pb, o = some ⟨pb, 0, none⟩ ∧ Blk w pb #[.map none] 60
theorem NoB.below {w w' : World} {o : Option Addr} (h : NoB w o) (hb : Below w.heap.size w w') : NoB w' o := h.imp id fun ⟨pb, e, k⟩ => ⟨pb, e, k.below hb k.lt⟩
theorem nomade_calls (o : Option Addr) (w : World) (h : NoB w o) : Calls Try.prog 33 #[.pointer o] w fun e w' => e = .returned (.bool false) ∧ w = w' := by
  have hx : ∀ W, (binOp .neq 58 (.map none) (.map none)).run Try.prog W = .ok (.bool false) W := fun _ => by kernel_rfl
  rcases h with rfl | ⟨pb, rfl, hb⟩
  · go_enter Try.func33, Try.ntmps33
    go_wp2
    go_ret
    exact ⟨rfl, rfl⟩
  · have c0 := hb.cell 0
    clear hb
    go_enter Try.func33, Try.ntmps33
    go_wp2
    go_ret
    exact ⟨rfl, rfl⟩
theorem noget_calls (o : Option Addr) (k : ByteArray) (w : World) (h : NoB w o) : Calls Try.prog 25 #[.pointer o, .string k] w fun e w' => e = .returned (.tuple #[.agg #[.string ⟨#[]⟩, .string ⟨#[]⟩, .bool false], .bool false]) ∧ Below w.heap.size w w' := by
  have hb := (Below.refl w.heap.size w).alloc (Nat.le_refl _) (.cells #[.string ⟨#[]⟩, .string ⟨#[]⟩, .bool false] 52)
  have HM := Lib.hid (nomade_calls o _ (h.below hb))
  have HB := Lib.hid hb
  clear h hb
  go_enter Try.func25, Try.ntmps25
  go_wp2_with fail
  refine HM.out.mono ?_
  rintro e w' ⟨rfl, rfl⟩
  go_wp2
  exact bodyPost_ret (v := .tuple #[.agg #[.string ⟨#[]⟩, .string ⟨#[]⟩, .bool false], .bool false]) (by simp [results, Try.results25, go_sem]) rfl ⟨rfl, HB.out⟩
theorem nolen_calls (o : Option Addr) (w : World) (h : NoB w o) : Calls Try.prog 22 #[.pointer o] w fun e w' => e = .returned (.int .i64 0) ∧ w = w' := by
  have HM := Lib.hid (nomade_calls o w h)
  clear h
  go_enter Try.func22, Try.ntmps22
  go_wp2_with fail
  refine HM.out.mono ?_
  rintro e w' ⟨rfl, rfl⟩
  go_wp2
  go_ret
  exact ⟨rfl, rfl⟩
theorem nowrite_calls (o : Option Addr) (p : Pair) (w : World) (h : NoB w o) : Calls Try.prog 32 #[.pointer o, .agg #[.string p.key, .string p.val, .bool p.dead]] w fun e w' => e = .returned (.int .i64 1) ∧ Below w.heap.size w w' := by
  have hb := (Below.refl w.heap.size w).alloc (Nat.le_refl _) (.cells #[.string p.key, .string p.val, .bool p.dead] 52)
  have HM := Lib.hid (nomade_calls o _ (h.below hb))
  have HB := Lib.hid hb
  clear h hb
  go_enter Try.func32, Try.ntmps32
  go_wp2_with fail
  refine HM.out.mono ?_
  rintro e w' ⟨rfl, rfl⟩
  go_wp2
  go_ret
  exact ⟨rfl, HB.out⟩
theorem noput_calls (o : Option Addr) (k v : ByteArray) (w : World) (h : NoB w o) : Calls Try.prog 21 #[.pointer o, .string k, .string v] w fun e w' => e = .returned (.int .i64 1) ∧ Below w.heap.size w w' := by
  have HM := Lib.hid (nowrite_calls o ⟨k, v, false⟩ w h)
  clear h
  go_enter Try.func21, Try.ntmps21
  go_wp2_with fail
  refine HM.out.mono ?_
  rintro e w' ⟨rfl, hb⟩
  have HB := Lib.hid hb
  clear hb
  go_wp2
  go_ret
  exact ⟨rfl, HB.out⟩
theorem nodrop_calls (o : Option Addr) (k : ByteArray) (w : World) (h : NoB w o) : Calls Try.prog 24 #[.pointer o, .string k] w fun e w' => e = .returned (.int .i64 1) ∧ Below w.heap.size w w' := by
  have HM := Lib.hid (nowrite_calls o ⟨k, ⟨#[]⟩, true⟩ w h)
  clear h
  go_enter Try.func24, Try.ntmps24
  go_wp2_with fail
  refine HM.out.mono ?_
  rintro e w' ⟨rfl, hb⟩
  have HB := Lib.hid hb
  clear hb
  go_wp2
  go_ret
  exact ⟨rfl, HB.out⟩
theorem nowithin_calls (o : Option Addr) (g : Nat) (cb : Array Value) (w : World) (h : NoB w o) : Calls Try.prog 28 #[.pointer o, .func (.func g) #[] cb] w fun e w' => e = .returned (.slice none 0 0) ∧ Below w.heap.size w w' := by
  have HM := Lib.hid (nomade_calls o w h)
  have HS := fun W => Lib.hid (sort_calls [] (.slice none 0 0) W.heap.size W (Own.nil tPair W _ 52 none_) (by simp))
  clear h
  go_enter Try.func28, Try.ntmps28
  go_wp2_with fail
  refine HM.out.mono ?_
  rintro e w' ⟨rfl, rfl⟩
  go_wp2_with fail
  refine (HS _).out.mono ?_
  rintro e w' ⟨rfl, l', -, -, -, h4⟩
  have HB : Hid (Below w.heap.size w w') := (Below.refl w.heap.size w).grown h4 (Nat.le_refl _) (fun k e => by cases e)
  clear h4
  go_wp2
  go_ret
  exact ⟨rfl, HB.out⟩
theorem nowrites_calls (o : Option Addr) (w : World) (h : NoB w o) : Calls Try.prog 23 #[.pointer o] w fun e w' => e = .returned (.slice none 0 0) ∧ Below w.heap.size w w' := by
  have HM := Lib.hid (nowithin_calls o 34 #[] w h)
  clear h
  go_enter Try.func23, Try.ntmps23
  go_wp2_with fail
  refine HM.out.mono ?_
  rintro e w' ⟨rfl, hb⟩
  have HB := Lib.hid hb
  clear hb
  go_wp2
  go_ret
  exact ⟨rfl, HB.out⟩
set_option maxHeartbeats 1000000 in
theorem noover_calls (o : Option Addr) (l : List Pair) (A : Option Addr) (n c : Nat) (x y : ByteArray) (w : World) (h : NoB w o) (hl : Sl tPair w (fun _ => True) (.slice A n c) l) (hn : n ≤ 150) :
    Calls Try.prog 17 #[.pointer o, .slice A n c, .string x, .string y, .int .i64 1000] w fun e w' => ∃ v, e = .returned v ∧ Sl tPair w' (fun _ => True) v (overlay l []) ∧ Below w.heap.size w w' := by
  have hb2 := ((Below.refl w.heap.size w).alloc (Nat.le_refl _) (.cells #[.string x] 9)).alloc (by simp) (.cells #[.string y] 9)
  have HW := Lib.hid (nowithin_calls o 29 #[.pointer (some ⟨w.heap.size, 0, none⟩), .pointer (some ⟨w.heap.size + 1, 0, none⟩)] _ (h.below hb2))
  have HL : Hid (Sl tPair ((w.alloc (.cells #[.string x] 9)).alloc (.cells #[.string y] 9)) (fun _ => True) (.slice A n c) l) := hl.below hb2
  have hln := hl.length.1
  have hol := overlay_length l []
  have HB := Lib.hid hb2
  clear h hl hb2
  go_enter Try.func17, Try.ntmps17
  go_wp2_with fail
  refine HW.out.mono ?_
  rintro e w2 ⟨rfl, h2⟩
  have HO := Lib.hid (overlay_calls l [] A none n c 0 0 w2 (HL.out.below h2) (Sl.nil _ _ _) (by omega) (by omega))
  have HB2 := Lib.hid (HB.out.trans (h2.mono (by simp; omega)))
  clear HW h2 HL HB
  go_wp2_with fail
  refine HO.out.mono ?_
  rintro e w3 ⟨v, rfl, h3, h4⟩
  obtain ⟨A3, c3, rfl, -⟩ := h3.form
  obtain ⟨k, hk⟩ : ∃ k, (overlay l []).length = k := ⟨_, rfl⟩
  rw [hk] at h3 hol
  have hk1000 : (k : Int) ≤ 1000 := by simp at hol; omega
  have hlen3 := h3.length.2.1
  have hz3 := HB2.out.size
  have hsl := fun W' => run_slice_hi (P := Try.prog) (sz := 3) Try.underlying23 (by kernel_rfl) A3 (n := k) (k := k) hlen3 W'
  have H3 := Lib.hid h3
  have H4 := Lib.hid (HB2.out.trans (h4.mono (by omega)))
  have hmin : min (k : Int) 1000 = k := by omega
  rw [hk]
  clear HO h3 h4 hk hln hol
  go_wp2
  go_ret
  refine ⟨_, rfl, ?_, H4.out⟩
  show Sl tPair w3 (fun _ => True) (.slice A3 (min (k : Int) (max 1000 0)).toNat c3) _
  rw [show (min (k : Int) (max 1000 0)).toNat = k by omega]
  exact H3.out.mono fun _ _ => trivial

set_option maxHeartbeats 8000000 in
set_option maxRecDepth 100000 in
theorem none_calls (a : Pair) (l : List Pair) (A : Option Addr) (n c : Nat) (w : World) (hk : a.key.size ≤ 140737488351232) (hv : a.val.size ≤ 140737488351232) (hl : Sl tPair w (fun _ => True) (.slice A n c) l) (hs : Short l) :
    Calls Try.prog 8 #[.agg #[.string a.key, .string a.val, .bool a.dead], .slice A n c] w fun e w' => e = .returned (.bool true) ∧ Below w.heap.size w w' := by
  have hln := hl.length.1
  have hb1 := (Below.refl w.heap.size w).alloc (Nat.le_refl _) (.cells #[.string a.key, .string a.val, .bool a.dead] 35)
  obtain ⟨z, hz⟩ : ∃ z, w.heap.size = z := ⟨_, rfl⟩
  have HA1 : Hid (Blk (w.alloc (.cells #[.string a.key, .string a.val, .bool a.dead] 35)) z #[.string a.key, .string a.val, .bool a.dead] 35) := by rw [← hz]; exact Blk.new _ _ _
  have hb2 := hb1.alloc (by simp) (.cells #[.string a.key, .string a.val, .bool a.dead] 35)
  have hG := Blk.new (w.alloc (.cells #[.string a.key, .string a.val, .bool a.dead] 35)) #[.string a.key, .string a.val, .bool a.dead] 35
  have hz1 : (w.alloc (.cells #[.string a.key, .string a.val, .bool a.dead] 35)).heap.size = z + 1 := by simp [hz]
  rw [hz1] at hG
  have hsl : Sl tPair ((w.alloc (.cells #[.string a.key, .string a.val, .bool a.dead] 35)).alloc (.cells #[.string a.key, .string a.val, .bool a.dead] 35)) (fun _ => True) (.slice (some ⟨z + 1, 0, none⟩) 1 1) [a] :=
    ⟨_, 1, _, rfl, Nat.le_refl _, ⟨by omega, fun h => by cases h⟩, pair_cells _ _ _, .inr ⟨z + 1, 0, rfl, trivial, fun j u hj => by rw [hG.cell (0 + j)]; simpa [Pair.enc] using hj⟩⟩
  have HLI := Lib.hid (light_calls [a] l (some ⟨z + 1, 0, none⟩) A 1 1 n c _ hsl (hl.below hb2) (by intro p hp; simp at hp; rw [hp]; exact ⟨hk, hv⟩) hs)
  have HL := Lib.hid hl
  have HB2 : Hid (Below z w ((w.alloc (.cells #[.string a.key, .string a.val, .bool a.dead] 35)).alloc (.cells #[.string a.key, .string a.val, .bool a.dead] 35))) := by rw [← hz]; exact hb2
  have HA2 : Hid (Blk ((w.alloc (.cells #[.string a.key, .string a.val, .bool a.dead] 35)).alloc (.cells #[.string a.key, .string a.val, .bool a.dead] 35)) z #[.string a.key, .string a.val, .bool a.dead] 35) := HA1.out.alloc _
  have HLN := Lib.hid hln
  clear hl hs hsl hG hb1 hb2 HA1 hz1 hln
  go_enter Try.func8, Try.ntmps8
  go_wp2_with fail
  refine HLI.out.mono ?_
  rintro e w1 ⟨b, rfl, hb, hb1⟩
  have HB1 : Hid (Below z w w1) := HB2.out.trans (hb1.mono (by simp; omega))
  have HA3 : Hid (Blk w1 z #[.string a.key, .string a.val, .bool a.dead] 35) := HA2.out.below hb1 HA2.out.lt
  have hz1 : z < w1.heap.size := HA3.out.lt
  clear HLI hb1 HB2 HA2
  cases b
  · clear hb
    go_wp2_with fail
    refine (lives_calls _).mono ?_
    rintro e w2 ⟨rfl, hb2⟩
    have HB2 := Lib.hid (HB1.out.trans (hb2.mono (by omega)))
    clear hb2
    go_wp2
    go_ret
    exact ⟨rfl, by rw [hz]; exact HB2.out⟩
  · have hn150 := (hb rfl).2
    have HL1 : Hid (Sl tPair w1 (fun _ => True) (.slice A n c) l) := (HL.out.inb.step fun b hb => HB1.out.block b (by have := hb.2; omega)).mono fun _ _ => trivial
    have HRI := Lib.hid (rises_calls l A n c w1 HL1.out)
    clear hb
    go_wp2_with fail
    refine HRI.out.mono ?_
    rintro e w2 ⟨b, rfl, -, hb2⟩
    have HB2 := Lib.hid (HB1.out.trans (hb2.mono (by omega)))
    have HA4 : Hid (Blk w2 z #[.string a.key, .string a.val, .bool a.dead] 35) := HA3.out.below hb2 HA3.out.lt
    have HL2 : Hid (Sl tPair w2 (fun _ => True) (.slice A n c) l) := HL1.out.below hb2
    have hz2 : z < w2.heap.size := HA4.out.lt
    clear HRI hb2 HB1 HA3 HL1
    cases b
    · go_wp2_with fail
      refine (lives_calls _).mono ?_
      rintro e w3 ⟨rfl, hb3⟩
      have HB3 := Lib.hid (HB2.out.trans (hb3.mono (by omega)))
      clear hb3
      go_wp2
      go_ret
      exact ⟨rfl, by rw [hz]; exact HB3.out⟩
    · obtain ⟨zb, hzb⟩ : ∃ zb, w2.heap.size = zb := ⟨_, rfl⟩
      have hba := (Below.refl w2.heap.size w2).alloc (Nat.le_refl _) (.cells #[.map none] 60)
      have HZ : Hid (Blk (w2.alloc (.cells #[.map none] 60)) zb #[.map none] 60) := by rw [← hzb]; exact Blk.new _ _ _
      have HA5 : Hid (Blk (w2.alloc (.cells #[.map none] 60)) z #[.string a.key, .string a.val, .bool a.dead] 35) := HA4.out.alloc _
      have HL3 : Hid (Sl tPair (w2.alloc (.cells #[.map none] 60)) (fun _ => True) (.slice A n c) l) := HL2.out.below hba
      have HB3 : Hid (Below z w (w2.alloc (.cells #[.map none] 60))) := HB2.out.alloc (by omega) _
      have i0 : ∀ W, (Instr.index 61 (.agg #[.pointer none, .pointer (some ⟨zb, 0, none⟩)]) (.int .i64 0)).run Try.prog W = .ok (.pointer none) W := fun _ => by kernel_rfl
      have i1 : ∀ W, (Instr.index 61 (.agg #[.pointer none, .pointer (some ⟨zb, 0, none⟩)]) (.int .i64 1)).run Try.prog W = .ok (.pointer (some ⟨zb, 0, none⟩)) W := fun _ => by kernel_rfl
      clear hba HA4 HL2 HB2
      go_wp2
      go_loopw [22] (fun i wr => ∃ j : Nat, i = .int .i64 j ∧ j ≤ 2 ∧ Hid (Blk wr zb #[.map none] 60) ∧ Hid (Blk wr z #[.string a.key, .string a.val, .bool a.dead] 35) ∧ Hid (Sl tPair wr (fun _ => True) (.slice A n c) l) ∧ Hid (Below z w wr)) (fun i _ => 2 - (intOf i).toNat)
      case atStart => exact ⟨0, rfl, by omega, HZ, HA5, HL3, HB3⟩
      case round =>
        obtain ⟨j, rfl, hj, HZr, HAr, HLr, HBr⟩ := hrel
        clear HZ HA5 HL3 HB3
        have hround : j = 2 ∨ ∃ o : Option Addr, j < 2 ∧ NoB wr o ∧ ∀ W, (Instr.index 61 (.agg #[.pointer none, .pointer (some ⟨zb, 0, none⟩)]) (.int .i64 (j : Int))).run Try.prog W = .ok (.pointer o) W := by
          rcases (by omega : j = 0 ∨ j = 1 ∨ j = 2) with rfl | rfl | rfl
          · exact .inr ⟨none, by omega, .inl rfl, i0⟩
          · exact .inr ⟨some ⟨zb, 0, none⟩, by omega, .inr ⟨zb, rfl, HZr.out⟩, i1⟩
          · exact .inl rfl
        rcases hround with rfl | ⟨o, hj2, hNo, hix⟩
        · have HV := Lib.hid (lives_calls wr)
          go_wp2_with fail
          refine HV.out.mono ?_
          rintro e w3 ⟨rfl, hb3⟩
          have HBz := Lib.hid (HBr.out.trans (hb3.mono (by rw [← hz]; exact HBr.out.size)))
          clear hb3
          go_wp2
          go_ret
          exact ⟨rfl, by rw [hz]; exact HBz.out⟩
        · have HNo := Lib.hid hNo
          have HG := Lib.hid (noget_calls o a.key wr hNo)
          have y0 := HAr.out.cell 0
          clear hNo i0 i1
          have HN : Hid (∀ W, Below wr.heap.size wr W → NoB W o) := fun W h => HNo.out.below h
          have HLW : Hid (∀ W, Below wr.heap.size wr W → Sl tPair W (fun _ => True) (.slice A n c) l) := fun W h => HLr.out.below h
          have HAW : Hid (∀ W, Below wr.heap.size wr W → Blk W z #[.string a.key, .string a.val, .bool a.dead] 35) := fun W h => HAr.out.below h HAr.out.lt
          have hzr : z < wr.heap.size := HAr.out.lt
          go_wp2_with fail
          refine HG.out.mono ?_
          rintro e w3 ⟨rfl, hb3⟩
          have hb4 : Below wr.heap.size wr (w3.alloc (.cells #[.string ⟨#[]⟩, .string ⟨#[]⟩, .bool false] 52)) := hb3.alloc hb3.size _
          have HP := Lib.hid (noput_calls o a.key a.val _ (HN.out _ hb4))
          have y0 := (HAW.out _ hb4).cell 0
          have y1 := (HAW.out _ hb4).cell 1
          have HB4 := Lib.hid hb4
          clear hb3 hb4 HG
          go_wp2_with fail
          refine HP.out.mono ?_
          rintro e w5 ⟨rfl, hb5⟩
          have hb5' := HB4.out.trans (hb5.mono HB4.out.size)
          have HD := Lib.hid (nodrop_calls o a.key w5 (HN.out _ hb5'))
          have y0 := (HAW.out _ hb5').cell 0
          have HB5 := Lib.hid hb5'
          clear hb5 hb5' HP HB4 y1
          go_wp2_with fail
          refine HD.out.mono ?_
          rintro e w6 ⟨rfl, hb6⟩
          have hb6' := HB5.out.trans (hb6.mono HB5.out.size)
          have HW := Lib.hid (nowrites_calls o w6 (HN.out _ hb6'))
          have HB6 := Lib.hid hb6'
          clear hb6 hb6' HD HB5 y0
          go_wp2_with fail
          refine HW.out.mono ?_
          rintro e w7 ⟨rfl, hb7⟩
          have hb7' := HB6.out.trans (hb7.mono HB6.out.size)
          have HLE := Lib.hid (nolen_calls o w7 (HN.out _ hb7'))
          have HOV := Lib.hid (noover_calls o l A n c ⟨#[]⟩ ⟨#[122]⟩ w7 (HN.out _ hb7') (HLW.out _ hb7') hn150)
          have HB7 := Lib.hid hb7'
          clear hb7 hb7' HW HB6
          go_wp2_with fail
          refine HLE.out.mono ?_
          rintro e w8 ⟨rfl, rfl⟩
          clear HLE
          go_wp2_with fail
          refine HOV.out.mono ?_
          rintro e w8 ⟨v, rfl, hs8, hb8⟩
          obtain ⟨A8, c8, rfl, -⟩ := hs8.form
          have hb8' := HB7.out.trans (hb8.mono HB7.out.size)
          have HRO := Lib.hid (roverlay_calls l [] A none n c 0 0 w8 (HLW.out _ hb8') (Sl.nil _ _ _) (by omega) (by omega))
          have HB8 := Lib.hid hb8'
          have HS8 := Lib.hid hs8
          clear hb8 hb8' hs8 HOV HB7
          go_wp2_with fail
          refine HRO.out.mono ?_
          rintro e w9 ⟨v, rfl, hs9, hb9⟩
          obtain ⟨A9, c9, rfl, -⟩ := hs9.form
          have HSM := Lib.hid (same_calls (overlay l []) A8 A9 _ c8 c9 w9 (HS8.out.below hb9) (hs9.mono fun _ _ => trivial))
          have HB9 := Lib.hid (HB8.out.trans (hb9.mono HB8.out.size))
          clear hb9 hs9 HRO HB8 HS8
          go_wp2_with fail
          refine HSM.out.mono ?_
          rintro e w10 ⟨rfl, hb10⟩
          have hbf := HB9.out.trans (hb10.mono HB9.out.size)
          have R1 : Hid (Blk w10 zb #[.map none] 60) := HZr.out.below hbf HZr.out.lt
          have R2 := Lib.hid (HAW.out _ hbf)
          have R3 := Lib.hid (HLW.out _ hbf)
          have R4 : Hid (Below z w w10) := HBr.out.trans (hbf.mono (by omega))
          clear hb10 hbf HSM HB9
          go_wp2
          go_roundw
          case rel => exact ⟨j + 1, by go_num, by omega, R1, R2, R3, R4⟩
          case measure => simp [intOf]; omega
end Go.Proofs.Ytkfndmbnfhhbiaa
