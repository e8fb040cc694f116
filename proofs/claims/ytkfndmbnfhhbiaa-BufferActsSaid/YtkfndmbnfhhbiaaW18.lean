import Derived.Test.YtkfndmbnfhhbiaaW17
import Derived.Deep.RegionHeld3
/-! BufferActs. -/
namespace Go.Proofs.Ytkfndmbnfhhbiaa
open Go.RowKit Go.Op

/-- What stays in the acts' region: the two pairs told, and the document's buffer. -/
def AS (X0 : World) (zp zq zr : Nat) (P : Pair) (A : Option Addr) (q c : Nat) (X : World) : Prop :=
  X.cell? ⟨zp, 0, none⟩ = some (.string P.key) ∧ X.cell? ⟨zp, 1, none⟩ = some (.string P.val) ∧ X.cell? ⟨zp, 2, none⟩ = some (.bool P.dead) ∧
  X.cell? ⟨zq, 0, none⟩ = some (.string P.key) ∧ X.cell? ⟨zq, 1, none⟩ = some (.string P.val) ∧ X.cell? ⟨zq, 2, none⟩ = some (.bool P.dead) ∧
  X.cell? ⟨zr, 0, none⟩ = some (.slice A q c) ∧ Hid (Below X0.heap.size X0 X) ∧ Hid (zp < X0.heap.size ∧ zq < X0.heap.size ∧ zr < X0.heap.size)
section
variable {X0 X X' : World} {zp zq zr : Nat} {P : Pair} {A : Option Addr} {q c : Nat}
theorem AS.below (h : AS X0 zp zq zr P A q c X) (hb : Below X.heap.size X X') : AS X0 zp zq zr P A q c X' := by
  obtain ⟨a0, a1, a2, b0, b1, b2, d0, hB, hz⟩ := h
  have hz' := hz.out
  have hs := hB.out.size
  obtain ⟨hc, -⟩ := bcell hb
  refine ⟨?_, ?_, ?_, ?_, ?_, ?_, ?_, hB.out.trans (hb.mono hB.out.size), hz⟩ <;> (rw [hc _ _ (by omega)]; assumption)
theorem AS.alloc (h : AS X0 zp zq zr P A q c X) (o : Obj) : AS X0 zp zq zr P A q c (X.alloc o) := h.below ((Below.refl _ _).alloc (Nat.le_refl _) o)
theorem AS.drew (h : AS X0 zp zq zr P A q c X) : AS X0 zp zq zr P A q c X.drew := h.below (Below.refl _ _).drew
theorem AS.after (h : AS X0 zp zq zr P A q c X) : Below X0.heap.size X0 X := h.2.2.2.2.2.2.2.1.out
end

set_option maxHeartbeats 8000000 in
set_option maxRecDepth 100000 in
theorem acts_calls (acts : List Pair) (A : Option Addr) (n c : Nat) (w : World) (hl : Sl tPair w (fun _ => True) (.slice A n c) acts) (hs : Short acts) :
    Calls Try.prog 6 #[.slice A n c] w fun e w' => e = .returned (.bool true) ∧ Below w.heap.size w w' := by
  have hln := hl.length
  have HL := Lib.hid hl
  have HSH := Lib.hid hs
  have HLI := Lib.hid (light_calls acts [] A none n c 0 0 w hl (Sl.nil _ _ _) hs (fun _ h => by cases h))
  obtain ⟨hln, hcap, hcm⟩ := hln
  have HLN := Lib.hid hln
  clear hl hs hln
  go_enter Try.func6, Try.ntmps6
  go_wp2_with fail
  refine HLI.out.mono ?_
  rintro e w1 ⟨b, rfl, hb, hb1⟩
  have HB1 := Lib.hid hb1
  clear HLI
  cases b
  · clear hb hb1
    go_wp2_with fail
    refine (lives_calls _).mono ?_
    rintro e w2 ⟨rfl, hb2⟩
    have HB2 := Lib.hid (HB1.out.trans (hb2.mono HB1.out.size))
    clear hb2
    go_wp2
    go_ret
    exact ⟨rfl, HB2.out⟩
  · have hn150 := (hb rfl).1
    clear hb hb1
    go_wp2_with fail
    refine (new_calls w1).mono ?_
    rintro e w2 ⟨rfl, hB2, hb2⟩
    obtain ⟨z, hz⟩ : ∃ z, w1.heap.size = z := ⟨_, rfl⟩
    rw [hz] at hB2 ⊢
    have hwz : w.heap.size ≤ z := by rw [← hz]; exact HB1.out.size
    have hz2 : z + 1 < w2.heap.size := hB2.blk.lt
    obtain ⟨zr, hzr⟩ : ∃ zr, w2.heap.size = zr := ⟨_, rfl⟩
    have HBE0 : Hid (Below w.heap.size w (w2.alloc (.cells #[.slice none 0 0] 33))) := (HB1.out.trans (hb2.mono HB1.out.size)).alloc (by omega) _
    have HBu0 : Hid (Buf (w2.alloc (.cells #[.slice none 0 0] 33)) (z + 1) z []) := hB2.below ((Below.refl _ _).alloc (Nat.le_refl _) _)
    have HRB0 : Hid (RBuf (w2.alloc (.cells #[.slice none 0 0] 33)) zr []) := by rw [← hzr]; exact ⟨none, 0, Blk.new _ _ _, Sl.nil _ _ _, Rising.nil, by simp⟩
    clear hB2 hb2 hz
    go_wp2
    go_loopw [22] (fun i wr => ∃ (j : Nat) (L : List Pair), i = .int .i64 j ∧ j ≤ n ∧ Hid (Buf wr (z + 1) z L) ∧ Hid (RBuf wr zr L) ∧ Hid (Below w.heap.size w wr)) (fun i _ => n - (intOf i).toNat)
    case atStart => exact ⟨0, [], rfl, by omega, HBu0, HRB0, HBE0⟩
    case round =>
      obtain ⟨j, L, rfl, hj, hBu, hRB, hBe⟩ := hrel
      clear HBu0 HRB0 HBE0
      by_cases hlt : j < n
      · obtain ⟨a, ha⟩ := some_at (show j < acts.length by rw [HLN.out]; exact hlt)
        obtain ⟨g, off, rfl, hg, x0, x1, x2⟩ := sl_pair (HL.out.below hBe.out) ha
        obtain ⟨s1, s2⟩ := HSH.out a (List.mem_of_getElem? ha)
        clear ha
        obtain ⟨ga, hga⟩ : ∃ ga, wr.heap.size = ga := ⟨_, rfl⟩
        have hzrr : zr < ga := by rw [← hga]; exact hRB.out.lt
        have hba := (Below.refl wr.heap.size wr).alloc (Nat.le_refl _) (.cells #[.string a.key, .string a.val, .bool a.dead] 35)
        have HPa : Hid (Blk (wr.alloc (.cells #[.string a.key, .string a.val, .bool a.dead] 35)) ga #[.string a.key, .string a.val, .bool a.dead] 35) := by rw [← hga]; exact Blk.new _ _ _
        have HD := Lib.hid (do_calls (z + 1) z L a _ (hBu.out.below hba) s1)
        have HRBa : Hid (RBuf (wr.alloc (.cells #[.string a.key, .string a.val, .bool a.dead] 35)) zr L) := hRB.out.below hba
        have HBEa : Hid (Below w.heap.size w (wr.alloc (.cells #[.string a.key, .string a.val, .bool a.dead] 35))) := hBe.out.alloc hBe.out.size _
        clear hba
        obtain ⟨r, hr⟩ : ∃ r, rput L (actP a) = r := ⟨_, rfl⟩
        rw [hr] at HD
        obtain ⟨code, L2⟩ := r
        have HR := Lib.hid hr
        clear hr hBu hRB hBe
        go_wp2_with fail
        refine HD.out.mono ?_
        rintro e w3 ⟨rfl, hB3, hg3⟩
        have hRB3 : RBuf w3 zr L := HRBa.out.kept hg3 (by intro b e; injection e; omega)
        have hPa3 : Blk w3 ga #[.string a.key, .string a.val, .bool a.dead] 35 := (hg3.block _ HPa.out.lt (fun e => by injection e with e; omega)).trans HPa.out
        have HBE3 : Hid (Below w.heap.size w w3) := HBEa.out.grown hg3 HBEa.out.size (fun k e => by cases e; exact hwz)
        have HB3 := Lib.hid hB3
        have HR1 : a.dead = false → Hid (Calls Try.prog 15 #[.pointer (some ⟨zr, 0, none⟩), .string a.key, .string a.val] w3 fun e w' => e = .returned (.int .i64 code) ∧ RBuf w' zr L2 ∧ w3.grownBy w' (some zr)) := fun hd => by
          have := rput2_calls zr L a.key a.val w3 hRB3 s1 s2
          rw [show (⟨a.key, a.val, false⟩ : Pair) = actP a by rw [actP, hd]; rfl, HR.out] at this
          exact this
        have HR2 : a.dead = true → Hid (Calls Try.prog 14 #[.pointer (some ⟨zr, 0, none⟩), .string a.key] w3 fun e w' => e = .returned (.int .i64 code) ∧ RBuf w' zr L2 ∧ w3.grownBy w' (some zr)) := fun hd => by
          have := rdrop_calls zr L a.key w3 hRB3 s1
          rw [show (⟨a.key, ⟨#[]⟩, true⟩ : Pair) = actP a by rw [actP, hd]; rfl, HR.out] at this
          exact this
        have y0 := hPa3.cell 0
        have y1 := hPa3.cell 1
        have y2 := hPa3.cell 2
        have HP3 := Lib.hid hPa3
        have hz3 : ga < w3.heap.size := hPa3.lt
        clear hB3 hg3 hRB3 hPa3 HBEa HRBa HPa HD x0 x1 x2
        cases hd : a.dead
        case' false =>
          have HRR := HR1 hd
          rw [hd] at y2
          clear hd HR1 HR2
          go_wp2_with fail
        case' true =>
          have HRR := HR2 hd
          rw [hd] at y2
          clear hd HR1 HR2
          go_wp2_with fail
        all_goals
          refine HRR.out.mono ?_
          rintro e w4 ⟨rfl, hRB4, hg4⟩
          have hBu4 : Buf w4 (z + 1) z L2 := HB3.out.kept hg4 (by intro e; injection e; omega) (by intro e; injection e; omega)
          have hPa4 : Blk w4 ga #[.string a.key, .string a.val, .bool a.dead] 35 := (hg4.block _ HP3.out.lt (fun e => by injection e with e; omega)).trans HP3.out
          have HBE4 : Hid (Below w.heap.size w w4) := HBE3.out.grown hg4 HBE3.out.size (fun k e => by cases e; omega)
          have HG := Lib.hid (get_calls (z + 1) z L2 a.key w4 hBu4 s1)
          have HRG : Hid (∀ W, Below w4.heap.size w4 W → Calls Try.prog 26 #[.pointer (some ⟨zr, 0, none⟩), .string a.key] W fun e w' => e = .returned (.tuple #[tyv ((findK L2 a.key).getD Pair.zero), .bool (findK L2 a.key).isSome]) ∧ Below W.heap.size W w') := fun W h => rget_calls zr L2 a.key W (hRB4.below h)
          obtain ⟨F, hF⟩ : ∃ F, findK L2 a.key = F := ⟨_, rfl⟩
          rw [hF] at HG HRG
          clear hF
          obtain ⟨P, hP⟩ : ∃ P, F.getD Pair.zero = P := ⟨_, rfl⟩
          obtain ⟨is, his⟩ : ∃ is, F.isSome = is := ⟨_, rfl⟩
          rw [hP, his] at HG HRG
          clear hP his
          have HBu4 := Lib.hid hBu4
          have HRB4 := Lib.hid hRB4
          have HP4 := Lib.hid hPa4
          have y0 := hPa4.cell 0
          have hz4 : ga < w4.heap.size := hPa4.lt
          clear y1 y2 hBu4 hRB4 hPa4 hg4 HB3 HP3 HBE3 HRR
          go_wp2_with fail
          refine HG.out.mono ?_
          rintro e w5 ⟨rfl, hb5⟩
          unfold tyv
          obtain ⟨zp, hzp⟩ : ∃ zp, w5.heap.size = zp := ⟨_, rfl⟩
          have hba5 : Below w4.heap.size w4 (w5.alloc (.cells #[.string P.key, .string P.val, .bool P.dead] 52)) := hb5.alloc hb5.size _
          have y0 := (HP4.out.below hba5 HP4.out.lt).cell 0
          have HRG5 := Lib.hid (HRG.out _ hba5)
          have HPp : Hid (Blk (w5.alloc (.cells #[.string P.key, .string P.val, .bool P.dead] 52)) zp #[.string P.key, .string P.val, .bool P.dead] 52) := by rw [← hzp]; exact Blk.new _ _ _
          have HBA5 := Lib.hid hba5
          have hz5 : ga < zp := by have := hb5.size; omega
          clear hb5 hba5 HG HRG
          unfold tyv at HRG5
          go_wp2_with fail
          refine HRG5.out.mono ?_
          rintro e w6 ⟨rfl, hb6⟩
          obtain ⟨zq, hzq⟩ : ∃ zq, w6.heap.size = zq := ⟨_, rfl⟩
          have hba6 : Below (w5.alloc (.cells #[.string P.key, .string P.val, .bool P.dead] 52)).heap.size (w5.alloc (.cells #[.string P.key, .string P.val, .bool P.dead] 52)) (w6.alloc (.cells #[.string P.key, .string P.val, .bool P.dead] 52)) := hb6.alloc hb6.size _
          have HPq : Blk (w6.alloc (.cells #[.string P.key, .string P.val, .bool P.dead] 52)) zq #[.string P.key, .string P.val, .bool P.dead] 52 := by rw [← hzq]; exact Blk.new _ _ _
          have HPp6 := HPp.out.below hba6 HPp.out.lt
          have hb46 := HBA5.out.trans (hba6.mono HBA5.out.size)
          obtain ⟨A2, c2, k1, k2, k3, k4⟩ := HRB4.out.below hb46
          have HBu6 := Lib.hid (HBu4.out.below hb46)
          have HBE6 := Lib.hid (HBE4.out.trans (hb46.mono HBE4.out.size))
          obtain ⟨q, hq⟩ : ∃ q, L2.length = q := ⟨_, rfl⟩
          rw [hq] at k1 k2 k4
          have d0 := k1.cell 0
          have HLQ := Lib.hid hq
          have HK1 := Lib.hid k1
          have HK2 := Lib.hid k2
          have HK3 := Lib.hid k3
          clear hq k1 k2 k3 hb6 y0
          go_wp2_with fail
          obtain ⟨X0, hX0⟩ : ∃ X0, w6.alloc (.cells #[.string P.key, .string P.val, .bool P.dead] 52) = X0 := ⟨_, rfl⟩
          rw [hX0] at HPq HPp6 d0 HK1 HK2 HBu6 HBE6 ⊢
          clear hX0 hba6 hb46
          have a0 := HPp6.cell 0
          have a1 := HPp6.cell 1
          have a2 := HPp6.cell 2
          have b0 := HPq.cell 0
          have b1 := HPq.cell 1
          have b2 := HPq.cell 2
          have hS : AS X0 zp zq zr P A2 q c2 X0 := ⟨a0, a1, a2, b0, b1, b2, d0, Below.refl _ _, ⟨HPp6.lt, HPq.lt, HK1.out.lt⟩⟩
          have h22 : Hid (∀ X, AS X0 zp zq zr P A2 q c2 X → Calls Try.prog 22 #[.pointer (some ⟨z + 1, 0, none⟩)] X fun e w' => e = .returned (.int .i64 (q : Nat)) ∧ Below X.heap.size X w') := fun X h => (len_calls (z + 1) z L2 X (HBu6.out.below h.after)).mono fun e w' ⟨e1, e2⟩ => ⟨by rw [e1, HLQ.out], by rw [← e2]; exact Below.refl _ _⟩
          have h23 : Hid (∀ X, AS X0 zp zq zr P A2 q c2 X → Calls Try.prog 23 #[.pointer (some ⟨z + 1, 0, none⟩)] X fun e w' => ∃ A c, e = .returned (.slice A q c) ∧ Hid (Sl tPair w' (fun _ => True) (.slice A q c) L2) ∧ Below X.heap.size X w') := fun X h =>
            (writes_calls (z + 1) z L2 X (HBu6.out.below h.after)).mono fun e w' ⟨v, e1, h1, h2⟩ => by
              obtain ⟨A, c, e2, -⟩ := h1.form
              rw [HLQ.out] at e2
              exact ⟨A, c, by rw [e1, e2], by rw [e2] at h1; exact h1.mono fun _ _ => trivial, h2⟩
          have h16 : Hid (∀ A c X, AS X0 zp zq zr P A2 q c2 X → Hid (Sl tPair X (fun _ => True) (.slice A q c) L2) → Calls Try.prog 16 #[.slice A q c, .slice A2 q c2] X fun e w' => e = .returned (.bool true) ∧ Below X.heap.size X w') := fun A c X h h1 =>
            same_calls L2 A A2 q c c2 X h1.out ((HK2.out.mono (ok' := fun _ => True) fun _ _ => trivial).below h.after)
          have neq := neq52 P
          clear HPp6 HPq a0 a1 a2 b0 b1 b2 d0
          go_region_held3 (fun X => X.cell? ⟨zp, 0, none⟩ = some (.string P.key) ∧ X.cell? ⟨zp, 1, none⟩ = some (.string P.val) ∧ X.cell? ⟨zp, 2, none⟩ = some (.bool P.dead) ∧ X.cell? ⟨zq, 0, none⟩ = some (.string P.key) ∧ X.cell? ⟨zq, 1, none⟩ = some (.string P.val) ∧ X.cell? ⟨zq, 2, none⟩ = some (.bool P.dead) ∧ X.cell? ⟨zr, 0, none⟩ = some (.slice A2 q c2) ∧ Hid (Below X0.heap.size X0 X) ∧ Hid (zp < X0.heap.size ∧ zq < X0.heap.size ∧ zr < X0.heap.size)) ((show AS X0 zp zq zr P A2 q c2 _; (repeat (first | with_reducible exact hS | with_reducible refine AS.drew ?_ | with_reducible refine AS.alloc ?_ _))))
            (first
            | (go_at_call 22; refine (h22.out _ ?_).mono ?_; (focus (repeat (first | with_reducible exact hS | with_reducible refine AS.drew ?_ | with_reducible refine AS.alloc ?_ _))); rintro e w7 ⟨rfl, hb1⟩; have hS : AS X0 zp zq zr P A2 q c2 w7 := AS.below (by (repeat (first | with_reducible exact hS | with_reducible refine AS.drew ?_ | with_reducible refine AS.alloc ?_ _))) hb1)
            | (go_at_call 23; refine (h23.out _ ?_).mono ?_; (focus (repeat (first | with_reducible exact hS | with_reducible refine AS.drew ?_ | with_reducible refine AS.alloc ?_ _))); rintro e w7 ⟨A7, c7, rfl, hs7, hb1⟩; have hS : AS X0 zp zq zr P A2 q c2 w7 := AS.below (by (repeat (first | with_reducible exact hS | with_reducible refine AS.drew ?_ | with_reducible refine AS.alloc ?_ _))) hb1)
            | (go_at_call 16; refine (h16.out _ _ _ ?_ ?_).mono ?_; (focus (repeat (first | with_reducible exact hS | with_reducible refine AS.drew ?_ | with_reducible refine AS.alloc ?_ _))); (focus exact hs7); rintro e w8 ⟨rfl, hb1⟩; have hS : AS X0 zp zq zr P A2 q c2 w8 := AS.below (by (repeat (first | with_reducible exact hS | with_reducible refine AS.drew ?_ | with_reducible refine AS.alloc ?_ _))) hb1))
          go_wp2
          have R1 : Hid (Buf _ (z + 1) z L2) := HBu6.out.below hS.after
          have R2 : Hid (RBuf _ zr L2) := RBuf.below ⟨A2, c2, by rw [HLQ.out]; exact HK1.out, by rw [HLQ.out]; exact HK2.out, HK3.out, by rw [HLQ.out]; exact k4⟩ hS.after
          have R3 : Hid (Below w.heap.size w _) := HBE6.out.trans (hS.after.mono HBE6.out.size)
          go_roundw
          case rel => exact ⟨j + 1, L2, by go_num, by omega, R1, R2, R3⟩
          case measure => simp [intOf]; omega
      · have HV := Lib.hid (lives_calls wr)
        go_wp2_with fail
        refine HV.out.mono ?_
        rintro e w3 ⟨rfl, hb3⟩
        have HBz := Lib.hid (hBe.out.trans (hb3.mono hBe.out.size))
        clear hb3
        go_wp2
        go_ret
        exact ⟨rfl, HBz.out⟩
end Go.Proofs.Ytkfndmbnfhhbiaa
