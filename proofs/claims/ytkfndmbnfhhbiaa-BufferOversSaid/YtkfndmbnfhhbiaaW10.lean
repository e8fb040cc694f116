import Derived.Test.YtkfndmbnfhhbiaaW9
/-! BufferLast. -/
namespace Go.Proofs.Ytkfndmbnfhhbiaa
open Go.RowKit Go.Op

theorem eql52 (p : Pair) (W : World) : (Go.binOp .eql 52 (.agg #[.string p.key, .string p.val, .bool p.dead]) (.agg #[.string p.key, .string p.val, .bool p.dead])).run Try.prog W = .ok (.bool true) W := by
  have hst : Try.prog.underlying 52 = some (.struct (Try.prog.fieldsOf 52)) := by rw [Program.fieldsOf, Try.underlying52]
  have u9 := Try.underlying9
  have u4 := Try.underlying4
  rw [run_eql_struct, run_equalIn_struct _ _ _ _ _ hst stood52]
  simp only [Program.fieldsOf, Try.underlying52]
  simp [Op.eqFields, go_sem, part, u9, u4]
theorem setP_grown (W : World) (z : Nat) (p : Pair) (b : Bool) : W.grownBy (setP W z p b) (some z) := ⟨rfl, rfl, rfl, by simp [setP], fun k _ hne => setP_heap W z p b (fun e => hne (by rw [e]))⟩
theorem setC_grown (W : World) (z j : Nat) (v : Value) : W.grownBy (W.setCell ⟨z, j, none⟩ v) (some z) := ⟨rfl, rfl, rfl, by simp, fun k _ hne => Below.heap_setCell _ _ _ _ (fun e => hne (by rw [e]))⟩
theorem setP_blk {W : World} {z : Nat} {a b c : Value} (h : Blk W z #[a, b, c] 52) (p : Pair) (d : Bool) : Blk (setP W z p d) z #[.string p.key, .string p.val, .bool d] 52 := ((h.set 0 (.string p.key)).set 1 (.string p.val)).set 2 (.bool d)
/-- What was refused changes nothing. -/
theorem rput_cases (l : List Pair) (p : Pair) : ((rput l p).1 = 0 ∧ (rput l p).2 = put l p) ∨ ((rput l p).1 ≠ 0 ∧ (rput l p).2 = l) := by
  unfold rput
  split
  · exact .inr ⟨by simp, rfl⟩
  · split
    · exact .inr ⟨by simp, rfl⟩
    · split
      · exact .inl ⟨rfl, rfl⟩
      · split
        · exact .inr ⟨by simp, rfl⟩
        · exact .inl ⟨rfl, rfl⟩
theorem actP_key (a : Pair) : (actP a).key = a.key := by unfold actP; split <;> rfl
/-- What a key has. -/
def Has (L : List Pair) (k : ByteArray) (h : Bool) (p : Pair) : Prop := (findK L k).isSome = h ∧ (findK L k).getD Pair.zero = p
theorem Has.put {L : List Pair} {k : ByteArray} {h : Bool} {p : Pair} (_ : Has L k h p) (hr : Rising L) (a : Pair) (hk : a.key = k) : Has (put L (actP a)) k true (actP a) := by
  unfold Has
  rw [find_put hr, if_pos (by rw [actP_key, hk])]; exact ⟨rfl, rfl⟩
theorem Has.other {L : List Pair} {k : ByteArray} {h : Bool} {p : Pair} (H : Has L k h p) (hr : Rising L) (a : Pair) (hk : a.key ≠ k) : Has (Go.Proofs.Ytkfndmbnfhhbiaa.put L (actP a)) k h p := by
  unfold Has
  rw [find_put hr, if_neg (by rw [actP_key]; exact fun e => hk e.symm)]; exact H

set_option maxHeartbeats 8000000 in
set_option maxRecDepth 100000 in
theorem last_calls (acts : List Pair) (A : Option Addr) (n c : Nat) (key : ByteArray) (w : World) (hl : Sl tPair w (fun _ => True) (.slice A n c) acts) (hs : Short acts) (hk : key.size ≤ 140737488351232) :
    Calls Try.prog 7 #[.slice A n c, .string key] w fun e w' => e = .returned (.bool true) ∧ Below w.heap.size w w' := by
  have hln := hl.length
  have HL := Lib.hid hl
  have HSH := Lib.hid hs
  have HLI := Lib.hid (light_calls acts [] A none n c 0 0 w hl (Sl.nil _ _ _) hs (fun _ h => by cases h))
  obtain ⟨hln, hcap, hcm⟩ := hln
  have HLN := Lib.hid hln
  clear hl hs hln
  go_enter Try.func7, Try.ntmps7
  go_wp2_with fail
  refine HLI.out.mono ?_
  rintro e w1 ⟨b, rfl, hb, hb1⟩
  have HB1 := Lib.hid hb1
  clear HLI
  cases b
  · clear hb hb1
    go_wp2_with fail
    refine (lives_calls _).mono ?_
    rintro e w2 ⟨rfl, hb2⟩
    have HB2 := Lib.hid (HB1.out.trans (hb2.mono HB1.out.size))
    clear hb2
    go_wp2
    go_ret
    exact ⟨rfl, HB2.out⟩
  · have hn150 := (hb rfl).1
    by_cases hkl : 300 < key.size
    · have hkl' : (300 : Int) < (key.size : Int) := by omega
      clear hb hb1
      go_wp2_with fail
      refine (lives_calls _).mono ?_
      rintro e w2 ⟨rfl, hb2⟩
      have HB2 := Lib.hid (HB1.out.trans (hb2.mono HB1.out.size))
      clear hb2
      go_wp2
      go_ret
      exact ⟨rfl, HB2.out⟩
    · clear hb hb1
      go_wp2_with fail
      refine (new_calls w1).mono ?_
      rintro e w2 ⟨rfl, hB2, hb2⟩
      obtain ⟨z, hz⟩ : ∃ z, w1.heap.size = z := ⟨_, rfl⟩
      rw [hz] at hB2 ⊢
      have hwz : w.heap.size ≤ z := by rw [← hz]; exact HB1.out.size
      have hz2 : z + 1 < w2.heap.size := hB2.blk.lt
      obtain ⟨zl, hzl⟩ : ∃ zl, w2.heap.size = zl := ⟨_, rfl⟩
      have HBw2 : Hid (Below w.heap.size w (w2.alloc (.cells #[.string ⟨#[]⟩, .string ⟨#[]⟩, .bool false] 52))) := (HB1.out.trans (hb2.mono HB1.out.size)).alloc (by omega) _
      have hBuf : Hid (Buf (w2.alloc (.cells #[.string ⟨#[]⟩, .string ⟨#[]⟩, .bool false] 52)) (z + 1) z []) := hB2.below ((Below.refl _ _).alloc (Nat.le_refl _) _)
      have hLast : Hid (Blk (w2.alloc (.cells #[.string ⟨#[]⟩, .string ⟨#[]⟩, .bool false] 52)) zl #[.string Pair.zero.key, .string Pair.zero.val, .bool Pair.zero.dead] 52) := by rw [← hzl]; exact Blk.new _ _ _
      have hH0 : Hid (Has [] key false Pair.zero) := ⟨rfl, rfl⟩
      clear hB2 hb2 hz
      go_wp2
      go_loopw [7, 26] (fun h i wr => ∃ (j : Nat) (hb : Bool) (L : List Pair) (last : Pair), i = .int .i64 j ∧ h = .bool hb ∧ j ≤ n ∧ Hid (Buf wr (z + 1) z L) ∧ Hid (Blk wr zl #[.string last.key, .string last.val, .bool last.dead] 52) ∧ Hid (Has L key hb last) ∧ Hid (Below w.heap.size w wr) ∧ zl < wr.heap.size) (fun _ i _ => n - (intOf i).toNat)
      case atStart => exact ⟨0, false, [], Pair.zero, rfl, rfl, by omega, hBuf, hLast, hH0, HBw2, by simp; omega⟩
      case round =>
        obtain ⟨j, hb, L, last, rfl, rfl, hj, hBu, hLa, hHs, hBe, hzr⟩ := hrel
        clear hBuf hLast hH0 HBw2
        by_cases hlt : j < n
        · obtain ⟨a, ha⟩ := some_at (show j < acts.length by rw [HLN.out]; exact hlt)
          obtain ⟨g, off, rfl, hg, x0, x1, x2⟩ := sl_pair (HL.out.below hBe.out) ha
          obtain ⟨s1, s2⟩ := HSH.out a (List.mem_of_getElem? ha)
          clear ha
          have hba := (Below.refl wr.heap.size wr).alloc (Nat.le_refl _) (.cells #[.string a.key, .string a.val, .bool a.dead] 35)
          have HW := Lib.hid (writes_calls (z + 1) z L _ (hBu.out.below hba))
          have HPa : Hid (Blk (wr.alloc (.cells #[.string a.key, .string a.val, .bool a.dead] 35)) wr.heap.size #[.string a.key, .string a.val, .bool a.dead] 35) := Blk.new _ _ _
          have HBA := Lib.hid hba
          clear hba
          go_wp2_with fail
          refine HW.out.mono ?_
          rintro e w3 ⟨v3, rfl, hs3, hb3⟩
          obtain ⟨A3, c3, rfl, -⟩ := hs3.form
          have hb03 : Below wr.heap.size wr w3 := HBA.out.trans (hb3.mono (by simp))
          have hPa3 : Blk w3 wr.heap.size #[.string a.key, .string a.val, .bool a.dead] 35 := HPa.out.below hb3 (by simp)
          have y0 := hPa3.cell 0
          have y1 := hPa3.cell 1
          have y2 := hPa3.cell 2
          have HD := Lib.hid (do_calls (z + 1) z L a w3 (hBu.out.below hb03) s1)
          have HS3 := Lib.hid hs3
          have HB3 := Lib.hid hb03
          have HP3 := Lib.hid hPa3
          clear HW HPa HBA hs3 hb3 hb03 hPa3
          obtain ⟨r, hr⟩ : ∃ r, rput L (actP a) = r := ⟨_, rfl⟩
          have hrc := rput_cases L (actP a)
          rw [hr] at hrc HD
          obtain ⟨code, L2⟩ := r
          have hRis := hBu.out.rising
          have hLa3 : Hid (Blk w3 zl #[.string last.key, .string last.val, .bool last.dead] 52) := hLa.out.below HB3.out hLa.out.lt
          have hBe3 : Hid (Below w.heap.size w w3) := hBe.out.trans (HB3.out.mono hBe.out.size)
          have hz3 := HB3.out.size
          clear hr x0 x1 x2
          go_wp2_with fail
          clear y0 y1 y2
          refine HD.out.mono ?_
          rintro e w4 ⟨rfl, hB4, hg4⟩
          have hPa4 : Blk w4 wr.heap.size #[.string a.key, .string a.val, .bool a.dead] 35 := (hg4.block _ HP3.out.lt (fun e => by injection e with e; omega)).trans HP3.out
          have y0 := hPa4.cell 0
          have y1 := hPa4.cell 1
          have y2 := hPa4.cell 2
          have hLa4 : Blk w4 zl #[.string last.key, .string last.val, .bool last.dead] 52 := (hg4.block _ hLa3.out.lt (fun e => by injection e with e; omega)).trans hLa3.out
          have hBe4 : Below w.heap.size w w4 := hBe3.out.grown hg4 hBe3.out.size (fun k e => by cases e; exact hwz)
          have hs4 : Sl tPair w4 (fun _ => True) (.slice A3 L.length c3) L := (HS3.out.inb.step fun b hb => hg4.block b hb.2 (fun e => by have := hb.1; simp at this; injection e with e; omega)).mono fun _ _ => trivial
          have hz4 := hg4.size
          clear HD hg4
          rcases hrc with ⟨hc0, hL2⟩ | ⟨hc0, hL2⟩
          · replace hc0 : code = 0 := hc0
            replace hL2 : L2 = put L (actP a) := hL2
            subst hc0
            have hB4' : Hid (Buf w4 (z + 1) z (put L (actP a))) := by rw [← hL2]; exact hB4
            have q0 := hLa4.cell 0
            have q1 := hLa4.cell 1
            have q2 := hLa4.cell 2
            have q3 := hLa4.frozen 0
            have q4 := hLa4.frozen 1
            have q5 := hLa4.frozen 2
            have HLA := Lib.hid hLa4
            have HBE := Lib.hid hBe4
            have hlen64 : ((put L (actP a)).length : Int) ≤ 64 := by have := hB4'.out.len; omega
            have HLN4 := Lib.hid (fun W (h : Buf W (z + 1) z (put L (actP a))) => len_calls (z + 1) z (put L (actP a)) W h)
            clear hL2 hB4 hLa4 hBe4 hs4 HS3
            cases hke : a.key.toList == key.toList
            · have hH' : Hid (Has (put L (actP a)) key hb last) := hHs.out.other hRis a (by rw [beq_key] at hke; simpa using hke)
              go_wp2_with fail
              refine (HLN4.out _ hB4'.out).mono ?_
              rintro e w5 ⟨rfl, rfl⟩
              go_wp2
              go_roundw
              case rel => exact ⟨j + 1, hb, put L (actP a), last, by go_num, rfl, by omega, hB4', HLA, hH', HBE, by omega⟩
              case measure => simp [intOf]; omega
            · have hkk : a.key = key := by rw [beq_key] at hke; simpa using hke
              have hH' : Hid (Has (put L (actP a)) key true (actP a)) := hHs.out.put hRis a hkk
              cases hd : a.dead
              · have hap : actP a = ⟨key, a.val, false⟩ := by rw [actP, hd, hkk]; rfl
                have hW : Hid (Blk (setP w4 zl ⟨key, a.val, false⟩ false) zl #[.string (actP a).key, .string (actP a).val, .bool (actP a).dead] 52) := by rw [hap]; exact setP_blk HLA.out _ _
                have hWb : Hid (Buf (setP w4 zl ⟨key, a.val, false⟩ false) (z + 1) z (put L (actP a))) := hB4'.out.kept (setP_grown _ _ _ _) (by intro e; injection e; omega) (by intro e; injection e; omega)
                have hWe : Hid (Below w.heap.size w (setP w4 zl ⟨key, a.val, false⟩ false)) := setP_below HBE.out (by omega) _ _
                rw [hd] at y2
                clear hkk hap hd HLA HBE hB4'
                go_wp2_with fail
                refine (HLN4.out _ hWb.out).mono ?_
                rintro e w5 ⟨rfl, rfl⟩
                clear q0 q1 q2 q3 q4 q5 y0 y1 y2 hPa4
                go_wp2
                go_roundw
                case rel => exact ⟨j + 1, true, put L (actP a), actP a, by go_num, rfl, by omega, hWb, hW, hH', hWe, by simp; omega⟩
                case measure => simp [intOf]; omega
              · have hap : actP a = ⟨key, ⟨#[]⟩, true⟩ := by rw [actP, hd, hkk]; rfl
                have hW : Hid (Blk ((setP w4 zl ⟨key, a.val, true⟩ true).setCell ⟨zl, 1, none⟩ (.string ⟨#[]⟩)) zl #[.string (actP a).key, .string (actP a).val, .bool (actP a).dead] 52) := by rw [hap]; exact (setP_blk HLA.out _ _).set 1 _
                have hWb : Hid (Buf ((setP w4 zl ⟨key, a.val, true⟩ true).setCell ⟨zl, 1, none⟩ (.string ⟨#[]⟩)) (z + 1) z (put L (actP a))) :=
                  (hB4'.out.kept (setP_grown _ _ _ _) (by intro e; injection e; omega) (by intro e; injection e; omega)).kept (setC_grown _ _ _ _) (by intro e; injection e; omega) (by intro e; injection e; omega)
                have hWe : Hid (Below w.heap.size w ((setP w4 zl ⟨key, a.val, true⟩ true).setCell ⟨zl, 1, none⟩ (.string ⟨#[]⟩))) := (setP_below HBE.out (by omega) _ _).setCell (p := ⟨zl, 1, none⟩) (by show _ ≤ zl; omega) _
                rw [hd] at y2
                clear hkk hap hd HLA HBE hB4'
                go_wp2_with fail
                refine (HLN4.out _ hWb.out).mono ?_
                rintro e w5 ⟨rfl, rfl⟩
                clear q0 q1 q2 q3 q4 q5 y0 y1 y2 hPa4
                go_wp2
                go_roundw
                case rel => exact ⟨j + 1, true, put L (actP a), actP a, by go_num, rfl, by omega, hWb, hW, hH', hWe, by simp; omega⟩
                case measure => simp [intOf]; omega
          · replace hc0 : code ≠ 0 := hc0
            replace hL2 : L2 = L := hL2
            subst hL2
            have e1 : (code == 0) = false := by simpa using hc0
            have e2 : (code != 0) = true := by simpa using hc0
            have HW := Lib.hid (writes_calls (z + 1) z L2 w4 hB4)
            have HB4 := Lib.hid hB4
            have HS4 := Lib.hid hs4
            have HLA := Lib.hid hLa4
            have HBE := Lib.hid hBe4
            have hlen64 : (L2.length : Int) ≤ 64 := by have := hB4.len; omega
            clear hB4 hs4 hLa4 hBe4 hc0 HS3
            go_wp2_with fail
            refine HW.out.mono ?_
            rintro e w5 ⟨v5, rfl, hs5, hb5⟩
            obtain ⟨A5, c5, rfl, -⟩ := hs5.form
            have HS := Lib.hid (same_calls L2 A3 A5 L2.length c3 c5 w5 (HS4.out.below hb5) (hs5.mono fun _ _ => trivial))
            have HB5 : Hid (Buf w5 (z + 1) z L2) := HB4.out.below hb5
            have HLA5 : Hid (Blk w5 zl #[.string last.key, .string last.val, .bool last.dead] 52) := HLA.out.below hb5 HLA.out.lt
            have HBE5 : Hid (Below w.heap.size w w5) := HBE.out.trans (hb5.mono HBE.out.size)
            have hP5 : Blk w5 wr.heap.size #[.string a.key, .string a.val, .bool a.dead] 35 := hPa4.below hb5 hPa4.lt
            have hz5 := hb5.size
            clear hs5 hb5 HW HB4 HS4 HLA HBE hPa4 y0 y1 y2
            go_wp2_with fail
            refine HS.out.mono ?_
            rintro e w6 ⟨rfl, hb6⟩
            have HB6 : Hid (Buf w6 (z + 1) z L2) := HB5.out.below hb6
            have HLA6 : Hid (Blk w6 zl #[.string last.key, .string last.val, .bool last.dead] 52) := HLA5.out.below hb6 HLA5.out.lt
            have HBE6 : Hid (Below w.heap.size w w6) := HBE5.out.trans (hb6.mono HBE5.out.size)
            have hz6 := hb6.size
            clear hb6 HS HB5 HLA5 HBE5 hP5
            go_wp2_with fail
            refine (len_calls (z + 1) z L2 w6 HB6.out).mono ?_
            rintro e w7 ⟨rfl, rfl⟩
            go_wp2
            go_roundw
            case rel => exact ⟨j + 1, hb, L2, last, by go_num, rfl, by omega, HB6, HLA6, hHs, HBE6, by omega⟩
            case measure => simp [intOf]; omega
        · have HG := Lib.hid (get_calls (z + 1) z L key wr hBu.out hk)
          have e1 := hHs.out.1
          have e2 := hHs.out.2
          rw [e1, e2] at HG
          have heq := eql52 last
          clear e1 e2
          go_wp2_with fail
          refine HG.out.mono ?_
          rintro e w3 ⟨rfl, hb3⟩
          have hLa3 : Blk w3 zl #[.string last.key, .string last.val, .bool last.dead] 52 := hLa.out.below hb3 hLa.out.lt
          have y0 := hLa3.cell 0
          have y1 := hLa3.cell 1
          have y2 := hLa3.cell 2
          have hz3 : zl < w3.heap.size := hLa3.lt
          have HBx : Hid (Below w.heap.size w (w3.alloc (.cells #[.string last.key, .string last.val, .bool last.dead] 52))) := (hBe.out.trans (hb3.mono hBe.out.size)).alloc (by have := hBe.out.size; omega) _
          clear hb3 hLa3 HG
          unfold tyv
          go_wp2_with fail
          refine (lives_calls _).mono ?_
          rintro e w4 ⟨rfl, hb4⟩
          have HB4 := Lib.hid (HBx.out.trans (hb4.mono HBx.out.size))
          clear hb4
          go_wp2
          go_ret
          exact ⟨rfl, HB4.out⟩
end Go.Proofs.Ytkfndmbnfhhbiaa
