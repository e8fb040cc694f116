import Derived.Test.YtkfndmbnfhhbiaaW18
/-! BufferOvers. -/
namespace Go.Proofs.Ytkfndmbnfhhbiaa
open Go.RowKit Go.Op

def AO (X0 : World) (zx zr : Nat) (x y : ByteArray) (m : Int) (A : Option Addr) (q c : Nat) (X : World) : Prop :=
  X.cell? ⟨zx, 0, none⟩ = some (.string x) ∧ X.cell? ⟨zx, 1, none⟩ = some (.string y) ∧ X.cell? ⟨zx, 2, none⟩ = some (.int .i64 m) ∧
  X.cell? ⟨zr, 0, none⟩ = some (.slice A q c) ∧ Hid (Below X0.heap.size X0 X) ∧ Hid (zx < X0.heap.size ∧ zr < X0.heap.size)
section
variable {X0 X X' : World} {zx zr : Nat} {x y : ByteArray} {m : Int} {A : Option Addr} {q c : Nat}
theorem AO.below (h : AO X0 zx zr x y m A q c X) (hb : Below X.heap.size X X') : AO X0 zx zr x y m A q c X' := by
  obtain ⟨a0, a1, a2, d0, hB, hz⟩ := h
  have hz' := hz.out
  have hs := hB.out.size
  obtain ⟨hc, -⟩ := bcell hb
  refine ⟨?_, ?_, ?_, ?_, hB.out.trans (hb.mono hB.out.size), hz⟩ <;> (rw [hc _ _ (by omega)]; assumption)
theorem AO.alloc (h : AO X0 zx zr x y m A q c X) (o : Obj) : AO X0 zx zr x y m A q c (X.alloc o) := h.below ((Below.refl _ _).alloc (Nat.le_refl _) o)
theorem AO.drew (h : AO X0 zx zr x y m A q c X) : AO X0 zx zr x y m A q c X.drew := h.below (Below.refl _ _).drew
theorem AO.after (h : AO X0 zx zr x y m A q c X) : Below X0.heap.size X0 X := h.2.2.2.2.1.out
end

set_option maxHeartbeats 8000000 in
set_option maxRecDepth 100000 in
theorem overs_calls (acts : List Pair) (A : Option Addr) (n c : Nat) (l : List Pair) (B : Option Addr) (k d : Nat) (x y : ByteArray) (m : Int) (w : World) (hl : Sl tPair w (fun _ => True) (.slice A n c) acts) (hs : Short acts)
    (hm : Sl tPair w (fun _ => True) (.slice B k d) l) (hsm : Short l) (hx : x.size ≤ 140737488351232) (hy : y.size ≤ 140737488351232) :
    Calls Try.prog 3 #[.slice A n c, .slice B k d, .agg #[.string x, .string y, .int .i64 m]] w fun e w' => e = .returned (.bool true) ∧ Below w.heap.size w w' := by
  obtain ⟨zx, hzx⟩ : ∃ zx, w.heap.size = zx := ⟨_, rfl⟩
  have hba := (Below.refl w.heap.size w).alloc (Nat.le_refl _) (.cells #[.string x, .string y, .int .i64 m] 25)
  have HX0 : Hid (Blk (w.alloc (.cells #[.string x, .string y, .int .i64 m] 25)) zx #[.string x, .string y, .int .i64 m] 25) := by rw [← hzx]; exact Blk.new _ _ _
  have HLI := Lib.hid (light_calls acts l A B n c k d _ (hl.below hba) (hm.below hba) hs hsm)
  have hcap := hl.length.2
  have hcapm := hm.length.2
  have HLN := Lib.hid hl.length.1
  have HL := Lib.hid hl
  have HSH := Lib.hid hs
  have HM := Lib.hid hm
  have HB0 : Hid (Below zx w (w.alloc (.cells #[.string x, .string y, .int .i64 m] 25))) := by rw [← hzx]; exact hba
  have x0 := HX0.out.cell 0
  have x1 := HX0.out.cell 1
  have x2 := HX0.out.cell 2
  clear hl hs hm hsm hba
  go_enter Try.func3, Try.ntmps3
  go_wp2_with fail
  refine HLI.out.mono ?_
  rintro e w1 ⟨b, rfl, hb, hb1⟩
  have HX1 : Hid (Blk w1 zx #[.string x, .string y, .int .i64 m] 25) := HX0.out.below hb1 HX0.out.lt
  have HB1 : Hid (Below zx w w1) := HB0.out.trans (hb1.mono (by simp; omega))
  have HM1 : Hid (Sl tPair w1 (fun _ => True) (.slice B k d) l) := (HM.out.inb.step fun b hb => HB1.out.block b (by have := hb.2; omega)).mono fun _ _ => trivial
  have hz1 : zx < w1.heap.size := HX1.out.lt
  clear HLI hb1 HX0 HB0 x0 x1 x2
  cases b
  · clear hb
    go_wp2_with fail
    refine (lives_calls _).mono ?_
    rintro e w2 ⟨rfl, hb2⟩
    have HB2 := Lib.hid (HB1.out.trans (hb2.mono (by omega)))
    clear hb2
    go_wp2
    go_ret
    exact ⟨rfl, by rw [hzx]; exact HB2.out⟩
  · have hn150 := (hb rfl).1
    have hk150 := (hb rfl).2
    have HRI := Lib.hid (rises_calls l B k d w1 HM1.out)
    clear hb
    go_wp2_with fail
    refine HRI.out.mono ?_
    rintro e w2 ⟨b, rfl, -, hb2⟩
    have HX2 : Hid (Blk w2 zx #[.string x, .string y, .int .i64 m] 25) := HX1.out.below hb2 HX1.out.lt
    have HB2 : Hid (Below zx w w2) := HB1.out.trans (hb2.mono (by omega))
    have HM2 : Hid (Sl tPair w2 (fun _ => True) (.slice B k d) l) := HM1.out.below hb2
    have hz2 : zx < w2.heap.size := HX2.out.lt
    have x0 := HX2.out.cell 0
    have x1 := HX2.out.cell 1
    have x2 := HX2.out.cell 2
    clear HRI hb2 HX1 HB1 HM1
    have hlive : Hid (∀ W, Below zx w W → Calls Try.prog 11 #[] W fun e w' => e = .returned (.bool true) ∧ Below zx w w') := fun W h => (lives_calls W).mono fun e w' ⟨e1, h1⟩ => ⟨e1, h.trans (h1.mono (by rw [← hzx]; rw [← hzx] at h; exact h.size))⟩
    by_cases hgo : b = true ∧ (x.size : Int) + (y.size : Int) ≤ 300
    case neg =>
      have hno : b = false ∨ (b = true ∧ 300 < (x.size : Int) + (y.size : Int)) := by
        cases b
        · exact .inl rfl
        · exact .inr ⟨rfl, by simp at hgo; omega⟩
      clear hgo
      rcases hno with rfl | ⟨rfl, hno⟩
      · go_wp2_with fail
        refine (hlive.out _ HB2.out).mono ?_
        rintro e w3 ⟨rfl, hb3⟩
        go_wp2
        go_ret
        exact ⟨rfl, by rw [hzx]; exact hb3⟩
      · go_wp2_with fail
        refine (hlive.out _ HB2.out).mono ?_
        rintro e w3 ⟨rfl, hb3⟩
        go_wp2
        go_ret
        exact ⟨rfl, by rw [hzx]; exact hb3⟩
    case pos =>
      obtain ⟨rfl, hxy⟩ := hgo
      have hx300 : (x.size : Int) ≤ 300 := by omega
      go_wp2_with fail
      refine (new_calls w2).mono ?_
      rintro e w3 ⟨rfl, hB3, hb3⟩
      obtain ⟨z, hz⟩ : ∃ z, w2.heap.size = z := ⟨_, rfl⟩
      rw [hz] at hB3 ⊢
      have hwz : zx < z := by omega
      have hz3 : z + 1 < w3.heap.size := hB3.blk.lt
      obtain ⟨zr, hzr⟩ : ∃ zr, w3.heap.size = zr := ⟨_, rfl⟩
      have HBE0 : Hid (Below zx w (w3.alloc (.cells #[.slice none 0 0] 33))) := (HB2.out.trans (hb3.mono (by omega))).alloc (by omega) _
      have HBu0 : Hid (Buf (w3.alloc (.cells #[.slice none 0 0] 33)) (z + 1) z []) := hB3.below ((Below.refl _ _).alloc (Nat.le_refl _) _)
      have HRB0 : Hid (RBuf (w3.alloc (.cells #[.slice none 0 0] 33)) zr []) := by rw [← hzr]; exact ⟨none, 0, Blk.new _ _ _, Sl.nil _ _ _, Rising.nil, by simp⟩
      have HX3 : Hid (Blk (w3.alloc (.cells #[.slice none 0 0] 33)) zx #[.string x, .string y, .int .i64 m] 25) := (HX2.out.below hb3 HX2.out.lt).alloc _
      clear hB3 hb3 hz HX2 HM2 x0 x1 x2
      go_wp2
      go_loopw [42] (fun i wr => ∃ (j : Nat) (L : List Pair), i = .int .i64 j ∧ j ≤ n ∧ Hid (Buf wr (z + 1) z L) ∧ Hid (RBuf wr zr L) ∧ Hid (Blk wr zx #[.string x, .string y, .int .i64 m] 25) ∧ Hid (Below zx w wr)) (fun i _ => n - (intOf i).toNat)
      case atStart => exact ⟨0, [], rfl, by omega, HBu0, HRB0, HX3, HBE0⟩
      case round =>
        obtain ⟨j, L, rfl, hj, hBu, hRB, hXr, hBe⟩ := hrel
        clear HBu0 HRB0 HBE0 HX3
        by_cases hlt : j < n
        · obtain ⟨a, ha⟩ := some_at (show j < acts.length by rw [HLN.out]; exact hlt)
          obtain ⟨g, off, rfl, hg, x0, x1, x2⟩ := sl_pair ((HL.out.inb.step fun b hb => hBe.out.block b (by have := hb.2; omega)).mono (ok' := fun _ => True) fun _ _ => trivial) ha
          obtain ⟨s1, s2⟩ := HSH.out a (List.mem_of_getElem? ha)
          clear ha
          obtain ⟨ga, hga⟩ : ∃ ga, wr.heap.size = ga := ⟨_, rfl⟩
          have hzrr : zr < ga := by rw [← hga]; exact hRB.out.lt
          have hba := (Below.refl wr.heap.size wr).alloc (Nat.le_refl _) (.cells #[.string a.key, .string a.val, .bool a.dead] 35)
          have HPa : Hid (Blk (wr.alloc (.cells #[.string a.key, .string a.val, .bool a.dead] 35)) ga #[.string a.key, .string a.val, .bool a.dead] 35) := by rw [← hga]; exact Blk.new _ _ _
          have HD := Lib.hid (do_calls (z + 1) z L a _ (hBu.out.below hba) s1)
          have HRBa : Hid (RBuf (wr.alloc (.cells #[.string a.key, .string a.val, .bool a.dead] 35)) zr L) := hRB.out.below hba
          have HBEa : Hid (Below zx w (wr.alloc (.cells #[.string a.key, .string a.val, .bool a.dead] 35))) := hBe.out.alloc (by omega) _
          have HXa : Hid (Blk (wr.alloc (.cells #[.string a.key, .string a.val, .bool a.dead] 35)) zx #[.string x, .string y, .int .i64 m] 25) := hXr.out.alloc _
          clear hba
          obtain ⟨r, hr⟩ : ∃ r, rput L (actP a) = r := ⟨_, rfl⟩
          rw [hr] at HD
          obtain ⟨code, L2⟩ := r
          have HR := Lib.hid hr
          clear hr hBu hRB hBe hXr
          go_wp2_with fail
          refine HD.out.mono ?_
          rintro e w4 ⟨rfl, hB3, hg3⟩
          have hRB3 : RBuf w4 zr L := HRBa.out.kept hg3 (by intro b e; injection e; omega)
          have hPa3 : Blk w4 ga #[.string a.key, .string a.val, .bool a.dead] 35 := (hg3.block _ HPa.out.lt (fun e => by injection e with e; omega)).trans HPa.out
          have HX4 : Hid (Blk w4 zx #[.string x, .string y, .int .i64 m] 25) := (hg3.block _ HXa.out.lt (fun e => by injection e with e; omega)).trans HXa.out
          have HBE3 : Hid (Below zx w w4) := HBEa.out.grown hg3 (by simp; omega) (fun k e => by cases e; omega)
          have HB3 := Lib.hid hB3
          have HR1 : a.dead = false → Hid (Calls Try.prog 15 #[.pointer (some ⟨zr, 0, none⟩), .string a.key, .string a.val] w4 fun e w' => e = .returned (.int .i64 code) ∧ RBuf w' zr L2 ∧ w4.grownBy w' (some zr)) := fun hd => by
            have := rput2_calls zr L a.key a.val w4 hRB3 s1 s2
            rw [show (⟨a.key, a.val, false⟩ : Pair) = actP a by rw [actP, hd]; rfl, HR.out] at this
            exact this
          have HR2 : a.dead = true → Hid (Calls Try.prog 14 #[.pointer (some ⟨zr, 0, none⟩), .string a.key] w4 fun e w' => e = .returned (.int .i64 code) ∧ RBuf w' zr L2 ∧ w4.grownBy w' (some zr)) := fun hd => by
            have := rdrop_calls zr L a.key w4 hRB3 s1
            rw [show (⟨a.key, ⟨#[]⟩, true⟩ : Pair) = actP a by rw [actP, hd]; rfl, HR.out] at this
            exact this
          have y0 := hPa3.cell 0
          have y1 := hPa3.cell 1
          have y2 := hPa3.cell 2
          have hz4 : ga < w4.heap.size := hPa3.lt
          clear hB3 hg3 hRB3 hPa3 HBEa HRBa HPa HD HXa x0 x1 x2
          cases hd : a.dead
          case' false =>
            have HRR := HR1 hd
            rw [hd] at y2
            clear hd HR1 HR2
            go_wp2_with fail
          case' true =>
            have HRR := HR2 hd
            rw [hd] at y2
            clear hd HR1 HR2
            go_wp2_with fail
          all_goals
            refine HRR.out.mono ?_
            rintro e w5 ⟨rfl, hRB4, hg4⟩
            have R1 : Hid (Buf w5 (z + 1) z L2) := HB3.out.kept hg4 (by intro e; injection e; omega) (by intro e; injection e; omega)
            have R2 := Lib.hid hRB4
            have R3 : Hid (Blk w5 zx #[.string x, .string y, .int .i64 m] 25) := (hg4.block _ HX4.out.lt (fun e => by injection e with e; omega)).trans HX4.out
            have R4 : Hid (Below zx w w5) := HBE3.out.grown hg4 (by omega) (fun k e => by cases e; omega)
            clear hRB4 hg4 y0 y1 y2 HRR
            go_wp2
            go_roundw
            case rel => exact ⟨j + 1, L2, by go_num, by omega, R1, R2, R3, R4⟩
            case measure => simp [intOf]; omega
        · obtain ⟨A2, c2, k1, k2, k3, k4⟩ := hRB.out
          obtain ⟨q, hq⟩ : ∃ q, L.length = q := ⟨_, rfl⟩
          rw [hq] at k1 k2 k4
          have d0 := k1.cell 0
          have a0 := hXr.out.cell 0
          have a1 := hXr.out.cell 1
          have a2 := hXr.out.cell 2
          have hS : AO wr zx zr x y m A2 q c2 wr := ⟨a0, a1, a2, d0, Below.refl _ _, ⟨hXr.out.lt, k1.lt⟩⟩
          have HK2 := Lib.hid (k2.mono (ok' := fun _ => True) fun _ _ => trivial)
          have HMr : Hid (Sl tPair wr (fun _ => True) (.slice B k d) l) := (HM.out.inb.step fun b hb => hBe.out.block b (by have := hb.2; omega)).mono fun _ _ => trivial
          obtain ⟨M1, hM1⟩ : ∃ M1, over L l x y m = M1 := ⟨_, rfl⟩
          obtain ⟨M2, hM2⟩ : ∃ M2, overlay l L = M2 := ⟨_, rfl⟩
          have h17 : Hid (∀ X, AO wr zx zr x y m A2 q c2 X → Calls Try.prog 17 #[.pointer (some ⟨z + 1, 0, none⟩), .slice B k d, .string x, .string y, .int .i64 m] X fun e w' => ∃ A c, e = .returned (.slice A M1.length c) ∧ Hid (Sl tPair w' (fun _ => True) (.slice A M1.length c) M1) ∧ Below X.heap.size X w') := fun X h =>
            (over_calls (z + 1) z L l B k d x y m X (hBu.out.below h.after) (HMr.out.below h.after) (by omega)).mono fun e w' ⟨v, e1, h1, h2⟩ => by
              obtain ⟨A, c, e2, -⟩ := h1.form
              rw [hM1] at h1 e2
              exact ⟨A, c, by rw [e1, e2], by rw [e2] at h1; exact h1.mono fun _ _ => trivial, h2⟩
          have h18 : Hid (∀ X, AO wr zx zr x y m A2 q c2 X → Calls Try.prog 18 #[.pointer (some ⟨zr, 0, none⟩), .slice B k d, .string x, .string y, .int .i64 m] X fun e w' => ∃ A c, e = .returned (.slice A M1.length c) ∧ Hid (Sl tPair w' (fun _ => True) (.slice A M1.length c) M1) ∧ Below X.heap.size X w') := fun X h =>
            (rover_calls zr L l B k d x y m X (hRB.out.below h.after) (HMr.out.below h.after) (by omega)).mono fun e w' ⟨v, e1, h1, h2⟩ => by
              obtain ⟨A, c, e2, -⟩ := h1.form
              rw [hM1] at h1 e2
              exact ⟨A, c, by rw [e1, e2], by rw [e2] at h1; exact h1.mono fun _ _ => trivial, h2⟩
          have h19 : Hid (∀ X, AO wr zx zr x y m A2 q c2 X → Calls Try.prog 19 #[.slice B k d, .slice A2 q c2] X fun e w' => ∃ A c, e = .returned (.slice A M2.length c) ∧ Hid (Sl tPair w' (fun _ => True) (.slice A M2.length c) M2) ∧ Below X.heap.size X w') := fun X h =>
            (overlay_calls l L B A2 k d q c2 X (HMr.out.below h.after) (HK2.out.below h.after) (by omega) (by omega)).mono fun e w' ⟨v, e1, h1, h2⟩ => by
              obtain ⟨A, c, e2, -⟩ := h1.form
              rw [hM2] at h1 e2
              exact ⟨A, c, by rw [e1, e2], by rw [e2] at h1; exact h1.mono fun _ _ => trivial, h2⟩
          have h20 : Hid (∀ X, AO wr zx zr x y m A2 q c2 X → Calls Try.prog 20 #[.slice B k d, .slice A2 q c2] X fun e w' => ∃ A c, e = .returned (.slice A M2.length c) ∧ Hid (Sl tPair w' (fun _ => True) (.slice A M2.length c) M2) ∧ Below X.heap.size X w') := fun X h =>
            (roverlay_calls l L B A2 k d q c2 X (HMr.out.below h.after) (HK2.out.below h.after) (by omega) (by omega)).mono fun e w' ⟨v, e1, h1, h2⟩ => by
              obtain ⟨A, c, e2, -⟩ := h1.form
              rw [hM2] at h1 e2
              exact ⟨A, c, by rw [e1, e2], by rw [e2] at h1; exact h1.mono fun _ _ => trivial, h2⟩
          have h16 : Hid (∀ A n c B d X, (∃ M : List Pair, Sl tPair X (fun _ => True) (.slice A n c) M ∧ Sl tPair X (fun _ => True) (.slice B n d) M) → Calls Try.prog 16 #[.slice A n c, .slice B n d] X fun e w' => e = .returned (.bool true) ∧ Below X.heap.size X w') := fun A n c B d X ⟨M, h1, h2⟩ =>
            same_calls M A B n c d X h1 h2
          have HBEr := Lib.hid hBe.out
          clear k1 k2 k3 hM1 hM2 hq a0 a1 a2 d0 hlive hBe hXr hRB hBu
          go_wp2_with fail
          go_region_held3 (fun X => X.cell? ⟨zx, 0, none⟩ = some (.string x) ∧ X.cell? ⟨zx, 1, none⟩ = some (.string y) ∧ X.cell? ⟨zx, 2, none⟩ = some (.int .i64 m) ∧ X.cell? ⟨zr, 0, none⟩ = some (.slice A2 q c2) ∧ Hid (Below wr.heap.size wr X) ∧ Hid (zx < wr.heap.size ∧ zr < wr.heap.size)) ((show AO wr zx zr x y m A2 q c2 _; (repeat (first | with_reducible exact hS | with_reducible refine AO.drew ?_ | with_reducible refine AO.alloc ?_ _))))
            (first
            | (go_at_call 17; refine (h17.out _ ?_).mono ?_; (focus (repeat (first | with_reducible exact hS | with_reducible refine AO.drew ?_ | with_reducible refine AO.alloc ?_ _))); rintro e w7 ⟨A7, c7, rfl, hs1, hb1⟩; have hS : AO wr zx zr x y m A2 q c2 w7 := AO.below (by (repeat (first | with_reducible exact hS | with_reducible refine AO.drew ?_ | with_reducible refine AO.alloc ?_ _))) hb1)
            | (go_at_call 18; refine (h18.out _ ?_).mono ?_; (focus (repeat (first | with_reducible exact hS | with_reducible refine AO.drew ?_ | with_reducible refine AO.alloc ?_ _))); rintro e w7 ⟨A8, c8, rfl, hs2, hb1⟩; have hS : AO wr zx zr x y m A2 q c2 w7 := AO.below (by (repeat (first | with_reducible exact hS | with_reducible refine AO.drew ?_ | with_reducible refine AO.alloc ?_ _))) hb1; have hs1 := Lib.hid (hs1.out.below hb1))
            | (go_at_call 19; refine (h19.out _ ?_).mono ?_; (focus (repeat (first | with_reducible exact hS | with_reducible refine AO.drew ?_ | with_reducible refine AO.alloc ?_ _))); rintro e w7 ⟨A9, c9, rfl, hs3, hb1⟩; have hS : AO wr zx zr x y m A2 q c2 w7 := AO.below (by (repeat (first | with_reducible exact hS | with_reducible refine AO.drew ?_ | with_reducible refine AO.alloc ?_ _))) hb1)
            | (go_at_call 20; refine (h20.out _ ?_).mono ?_; (focus (repeat (first | with_reducible exact hS | with_reducible refine AO.drew ?_ | with_reducible refine AO.alloc ?_ _))); rintro e w7 ⟨A10, c10, rfl, hs4, hb1⟩; have hS : AO wr zx zr x y m A2 q c2 w7 := AO.below (by (repeat (first | with_reducible exact hS | with_reducible refine AO.drew ?_ | with_reducible refine AO.alloc ?_ _))) hb1; have hs3 := Lib.hid (hs3.out.below hb1))
            | (go_at_call 16; refine (h16.out _ _ _ _ _ _ ?_).mono ?_; (focus (first | exact ⟨_, hs3.out, hs4.out⟩ | exact ⟨_, hs1.out, hs2.out⟩)); rintro e w8 ⟨rfl, hb1⟩; have hS : AO wr zx zr x y m A2 q c2 w8 := AO.below (by (repeat (first | with_reducible exact hS | with_reducible refine AO.drew ?_ | with_reducible refine AO.alloc ?_ _))) hb1)
            | (go_at_call 11; refine (lives_calls _).mono ?_; rintro e w8 ⟨rfl, hb1⟩; have hS : AO wr zx zr x y m A2 q c2 w8 := AO.below (by (repeat (first | with_reducible exact hS | with_reducible refine AO.drew ?_ | with_reducible refine AO.alloc ?_ _))) hb1))
          all_goals
            go_wp2
            go_ret
            exact ⟨rfl, by rw [hzx]; exact HBEr.out.trans (hS.after.mono (by have := HBEr.out.size; omega))⟩
end Go.Proofs.Ytkfndmbnfhhbiaa
