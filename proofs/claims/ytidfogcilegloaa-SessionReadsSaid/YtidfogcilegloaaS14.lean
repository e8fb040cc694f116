import Derived.Test.YtidfogcilegloaaS13
/-! SessionReads. -/
namespace Go.Proofs.Ytidfogcilegloaa
open Go.RowKit Go.Op

/-- Between two installs. -/
def PI (w wr : World) (pb mb xb : Nat) (T : Nat) (j : Nat) : Prop := ∃ S, Pr w wr pb mb xb S 2 ∧ S.last ≤ (j : Int) ∧ S.ents.length ≤ T
/-- Between two acts. -/
def BI (w wr : World) (pb mb xb : Nat) (S : Sto) : Prop := ∃ s, Bo w wr pb mb xb S s ∧ Keeps S s
set_option maxRecDepth 100000 in
set_option maxHeartbeats 16000000 in
theorem reads_calls (lb lm : List LAct) (A B : Option Addr) (n c k d : Nat) (w : World) (hl : Sl tLAct w (fun _ => True) (.slice A n c) lb) (ho : ∀ a ∈ lb, LActOk a) (hm : Sl tLAct w (fun _ => True) (.slice B k d) lm) (hq : ∀ a ∈ lm, LActOk a) :
    Calls Try.prog 5 #[.slice A n c, .slice B k d] w fun e w' => e = .returned (.bool true) ∧ Below w.heap.size w w' := by
  obtain ⟨hln, hcap, hcm⟩ := hl.length
  obtain ⟨hkn, hcap2, hcm2⟩ := hm.length
  have HL := Lib.hid hl
  have HM := Lib.hid hm
  have HLN := Lib.hid hln
  have HKN := Lib.hid hkn
  have HO := Lib.hid ho
  have HQ := Lib.hid hq
  clear hl hm hln hkn ho hq
  have hlive : Hid (∀ W, Below w.heap.size w W → Calls Try.prog 8 #[] W fun e w' => e = .returned (.bool true) ∧ Below w.heap.size w w') := fun W h => (lives_calls W).mono fun e w' ⟨h1, h2⟩ => ⟨h1, h.trans (h2.mono h.size)⟩
  go_enter Try.func5, Try.ntmps5
  go_wp2_with fail
  refine (st_new w w (Below.refl _ _)).mono ?_
  rintro e w1 ⟨pb, mb, kv, X, rfl, hM⟩
  have HN := Lib.hid (se_new (id := 2) hM (by omega) (by omega))
  clear hM
  go_wp2_with fail
  refine HN.out.mono ?_
  rintro e w2 ⟨xb, rfl, hP⟩
  have HP := Lib.hid hP
  have HLI := Lib.hid (light_calls lb A n c w2 (HL.out.below hP.be) HO.out)
  clear hP HN
  go_wp2_with fail
  refine HLI.out.mono ?_
  rintro e w3 ⟨b1, rfl, hb1, hbl⟩
  have HP3 := Lib.hid (HP.out.below hbl)
  clear HLI HP hbl
  cases b1
  · clear hb1
    go_wp2_with fail
    refine (hlive.out _ HP3.out.be).mono ?_
    rintro e w4 ⟨rfl, hb⟩
    have HB := Lib.hid hb
    clear hb
    go_wp2
    go_ret
    exact ⟨rfl, HB.out⟩
  have HB1 := Lib.hid (hb1 rfl)
  have HLI := Lib.hid (light_calls lm B k d w3 (HM.out.below HP3.out.be) HQ.out)
  clear hb1
  go_wp2_with fail
  refine HLI.out.mono ?_
  rintro e w4 ⟨b2, rfl, hb2, hbl⟩
  have HP4 := Lib.hid (HP3.out.below hbl)
  clear HLI HP3 hbl
  cases b2
  · clear hb2
    go_wp2_with fail
    refine (hlive.out _ HP4.out.be).mono ?_
    rintro e w5 ⟨rfl, hb⟩
    have HB := Lib.hid hb
    clear hb
    go_wp2
    go_ret
    exact ⟨rfl, HB.out⟩
  have HB2 := Lib.hid (hb2 rfl)
  clear hb2
  have HPI : Hid (PI w w4 pb mb xb (pairsOf (lb.take 0)) 0) := ⟨Sto.new, HP4.out, by simp [Sto.new], by simp [Sto.new]⟩
  clear HP4
  go_wp2_with fail
  go_loopw [42] (fun i wr => ∃ j : Nat, i = .int .i64 j ∧ j ≤ n ∧ Hid (PI w wr pb mb xb (pairsOf (lb.take j)) j)) (fun i _ => n - (intOf i).toNat)
  case atStart => exact ⟨0, rfl, by omega, HPI⟩
  case round =>
    obtain ⟨j, rfl, hj, hI⟩ := hrel
    clear HPI
    by_cases hlt : j < n
    · obtain ⟨a, ha⟩ := some_at (show j < lb.length by rw [HLN.out]; exact hlt)
      obtain ⟨S, hP, hla, hen⟩ := hI.out
      obtain ⟨-, -, hSh, -, -⟩ := HO.out a (List.mem_of_getElem? ha)
      have hpt := pairsOf_take ha
      obtain ⟨g, off, P, np, cp, rfl, hg, x0, x1, x2, x3, x4, x5, hPs⟩ := sl_lact HL.out ha
      have hbe := hP.be
      have hg' : g < wr.heap.size := Nat.lt_of_lt_of_le hg hbe.size
      have y0 := (hbe.cell (p := ⟨g, off + j * 6, none⟩) hg).trans x0
      have y1 := (hbe.cell (p := ⟨g, off + j * 6 + 1, none⟩) hg).trans x1
      have y2 := (hbe.cell (p := ⟨g, off + j * 6 + 2, none⟩) hg).trans x2
      have y3 := (hbe.cell (p := ⟨g, off + j * 6 + 3, none⟩) hg).trans x3
      have y4 := (hbe.cell (p := ⟨g, off + j * 6 + 4, none⟩) hg).trans x4
      have y5 := (hbe.cell (p := ⟨g, off + j * 6 + 5, none⟩) hg).trans x5
      have h0 : 0 ≤ S.last := by have := hP.sok.fl; have := hP.sok.le; omega
      have hn60 : n ≤ 60 := by rw [← HLN.out]; exact HB1.out.1
      have hpa : pairsOf (lb.take j) + a.l.length ≤ 300 := by
        rw [← hpt]
        have h1 : pairsOf lb ≤ 300 := HB1.out.2.1
        have h2 : pairsOf (lb.take (j + 1)) + pairsOf (lb.drop (j + 1)) = pairsOf lb := by
          unfold pairsOf
          rw [← List.sum_append_nat, ← List.map_append, List.take_append_drop]
        omega
      have hsz := inst_size hP.sok (S.last + 1) a.l
      have hwr : IntKind.i64.wrap (S.last + 1) = S.last + 1 := IntWalk.i64_in _ (by omega)
      obtain ⟨Wa, hWa⟩ : ∃ Wa, wr.alloc (.cells #[.int .i64 a.kind, .int .i64 a.n, .string a.key, .string a.val, .bool a.strict, .slice P np cp] 40) = Wa := ⟨_, rfl⟩
      have hba : Below wr.heap.size wr Wa := by rw [← hWa]; exact (Below.refl _ _).alloc (Nat.le_refl _) _
      obtain ⟨ga, hga⟩ : ∃ ga, wr.heap.size = ga := ⟨_, rfl⟩
      have hPb : Blk Wa ga #[.int .i64 a.kind, .int .i64 a.n, .string a.key, .string a.val, .bool a.strict, .slice P np cp] 40 := by rw [← hga, ← hWa]; exact Blk.new _ _ _
      have z5 := hPb.cell 5
      simp only [List.getElem?_toArray, List.getElem?_cons_succ, List.getElem?_cons_zero] at z5
      have hPa := hP.below hba
      have h21 : Hid (∀ W, Below Wa.heap.size Wa W → Calls Try.prog 21 #[.pointer (some ⟨pb, 0, none⟩)] W fun e w' => e = .returned (.int .i64 S.last) ∧ W = w') := fun W h => (hPa.below h).last
      have h20 : Hid (∀ W, Below Wa.heap.size Wa W → Calls Try.prog 20 #[.pointer (some ⟨pb, 0, none⟩), .int .i64 (S.last + 1), .slice P np cp] W fun e w' => ∃ q : Int, e = .returned (.int .i64 q) ∧ Hid (PI w w' pb mb xb (pairsOf (lb.take (j + 1))) (j + 1))) := fun W h =>
        ((hPa.below h).install hPs hSh (S.last + 1) (by omega) (by omega) (by omega) (by omega)).mono fun e w' ⟨e1, h1⟩ => ⟨_, e1, _, h1, by omega, by omega⟩
      have hbW : Below Wa.heap.size Wa Wa := Below.refl _ _
      clear ha hP hla hen hPs x0 x1 x2 x3 x4 x5 hbe hg hba hPa hPb hsz hSh hpt hpa hI
      obtain ⟨la, hla⟩ : ∃ la, S.last = la := ⟨_, rfl⟩
      rw [hla] at h21 h20 hwr h0
      clear hla
      go_wp2_with fail
      clear hWa y0 y1 y2 y3 y4 y5 hg'
      go_region_law (first
        | (go_simp; go_at_call 21; refine (h21.out _ ?_).mono ?_; (focus (repeat (first | with_reducible exact hbW | apply Below.drew))); rintro e w6 ⟨rfl, rfl⟩)
        | (go_simp; go_at_call 20; refine (h20.out _ ?_).mono ?_; (focus (repeat (first | with_reducible exact hbW | apply Below.drew))); rintro e wB ⟨q, rfl, hR⟩))
      all_goals
        have HR := hR
        clear hwr h21 h20 z5 hR
        go_wp2
        go_roundw
        case rel => exact ⟨j + 1, by go_num, by omega, HR⟩
        case measure => simp [intOf]; omega
    · obtain rfl : j = n := by omega
      obtain ⟨S, hP, hla, hen⟩ := hI.out
      have HBG := Lib.hid (hP.begin true)
      clear hP hla hen hI
      go_wp2_with fail
      refine HBG.out.mono ?_
      rintro e w5 ⟨rfl, hB5⟩
      have HBI : Hid (BI w w5 pb mb xb S) := ⟨_, hB5, Keeps.start S⟩
      clear HBG hB5
      go_wp2_with fail
      go_loopw [60] (fun i wr => ∃ i2 : Nat, i = .int .i64 i2 ∧ i2 ≤ k ∧ Hid (BI w wr pb mb xb S)) (fun i _ => k - (intOf i).toNat)
      case atStart => exact ⟨0, rfl, by omega, HBI⟩
      case round =>
        obtain ⟨i2, rfl, hi2, hI⟩ := hrel
        clear HBI
        by_cases hlt2 : i2 < k
        · obtain ⟨a, ha⟩ := some_at (show i2 < lm.length by rw [HKN.out]; exact hlt2)
          obtain ⟨s, hB, hK⟩ := hI.out
          obtain ⟨hao1, hao2, -, -, -⟩ := HQ.out a (List.mem_of_getElem? ha)
          obtain ⟨g, off, P, np, cp, rfl, hg, x0, x1, x2, x3, x4, x5, hPs⟩ := sl_lact HM.out ha
          have hbe := hB.be
          have hg' : g < wr.heap.size := Nat.lt_of_lt_of_le hg hbe.size
          have y0 := (hbe.cell (p := ⟨g, off + i2 * 6, none⟩) hg).trans x0
          have y1 := (hbe.cell (p := ⟨g, off + i2 * 6 + 1, none⟩) hg).trans x1
          have y2 := (hbe.cell (p := ⟨g, off + i2 * 6 + 2, none⟩) hg).trans x2
          have y3 := (hbe.cell (p := ⟨g, off + i2 * 6 + 3, none⟩) hg).trans x3
          have y4 := (hbe.cell (p := ⟨g, off + i2 * 6 + 4, none⟩) hg).trans x4
          have y5 := (hbe.cell (p := ⟨g, off + i2 * 6 + 5, none⟩) hg).trans x5
          obtain ⟨ak, an, akey, aval, ast, al⟩ := a
          simp only at y0 y1 y2 y3 y4 y5 hao1 hao2
          have hBa := hB.below ((Below.refl _ _).alloc (Nat.le_refl _) (.cells #[.int .i64 ak, .int .i64 an, .string akey, .string aval, .bool ast, .slice P np cp] 40))
          have HK := Lib.hid hK
          have HBA := Lib.hid hBa
          clear ha hB hK hPs x0 x1 x2 x3 x4 x5 hbe hg hBa hI
          by_cases k1 : ak = 1
          · subst k1
            have HN := Lib.hid (HBA.out.get akey hao1)
            go_wp2_with fail
            refine HN.out.mono ?_
            rintro e w6 ⟨rfl, hB6⟩
            have HB6 : Hid (BI w w6 pb mb xb S) := ⟨_, hB6, HK.out.get akey⟩
            clear HN hB6 HBA HK y0 y1 y2 y3 y4 y5 hg'
            go_wp2
            go_roundw
            case rel => exact ⟨i2 + 1, by go_num, by omega, HB6⟩
            case measure => simp [intOf]; omega
          · have e1 : (ak == 1) = false := by simpa using k1
            by_cases k2 : ak = 2
            · subst k2
              have HN := Lib.hid (HBA.out.put akey aval hao1)
              clear e1 k1
              go_wp2_with fail
              refine HN.out.mono ?_
              rintro e w6 ⟨rfl, hB6⟩
              have HB6 : Hid (BI w w6 pb mb xb S) := ⟨_, hB6, HK.out.put _⟩
              clear HN hB6 HBA HK y0 y1 y2 y3 y4 y5 hg'
              go_wp2
              go_roundw
              case rel => exact ⟨i2 + 1, by go_num, by omega, HB6⟩
              case measure => simp [intOf]; omega
            · have e2 : (ak == 2) = false := by simpa using k2
              by_cases k4 : ak = 4
              · subst k4
                have HN := Lib.hid (HBA.out.scan akey aval hao1 hao2)
                clear e1 k1 e2 k2
                go_wp2_with fail
                refine HN.out.mono ?_
                rintro e w6 ⟨v6, rfl, -, hB6⟩
                have HB6 : Hid (BI w w6 pb mb xb S) := ⟨_, hB6, HK.out.scan akey aval⟩
                clear HN hB6 HBA HK y0 y1 y2 y3 y4 y5 hg'
                go_wp2
                go_roundw
                case rel => exact ⟨i2 + 1, by go_num, by omega, HB6⟩
                case measure => simp [intOf]; omega
              · have e4 : (ak == 4) = false := by simpa using k4
                have HB6 : Hid (BI w (wr.alloc (.cells #[.int .i64 ak, .int .i64 an, .string akey, .string aval, .bool ast, .slice P np cp] 40)) pb mb xb S) := ⟨_, HBA.out, HK.out⟩
                clear HBA HK k1 k2 k4
                go_wp2
                go_roundw
                case rel => exact ⟨i2 + 1, by go_num, by omega, HB6⟩
                case measure => simp [intOf]; omega
        · obtain rfl : i2 = k := by omega
          obtain ⟨s, hB, hK⟩ := hI.out
          have HN := Lib.hid hB.record
          have HK := Lib.hid hK
          obtain ⟨e1, e2, e3⟩ : s.id = 2 ∧ s.snap = S.last ∧ s.strict = true := ⟨hK.id, hK.snap, hK.strict⟩
          rw [e1, e2, e3] at HN
          clear hB hK hI e1 e2 e3
          go_wp2_with fail
          refine HN.out.mono ?_
          rintro e w6 ⟨R, nr, cr, W, nw, cw, rfl, hR, -, -, hB6⟩
          obtain ⟨w7, hw7⟩ : ∃ w7, w6.alloc (.cells #[.int .i64 2, .int .i64 S.last, .bool true, .slice R nr cr, .slice W nw cw] 34) = w7 := ⟨_, rfl⟩
          have hb7 : Below w6.heap.size w6 w7 := by rw [← hw7]; exact (Below.refl _ _).alloc (Nat.le_refl _) _
          obtain ⟨gr, hgr⟩ : ∃ gr, w6.heap.size = gr := ⟨_, rfl⟩
          have hG7 : Blk w7 gr #[.int .i64 2, .int .i64 S.last, .bool true, .slice R nr cr, .slice W nw cw] 34 := by rw [← hgr, ← hw7]; exact Blk.new _ _ _
          have HR7 := Lib.hid (hR.below hb7)
          have HB7 := Lib.hid (hB6.below hb7)
          have HG7 := Lib.hid hG7
          have h21 : Hid (∀ m, Calls Try.prog 21 #[.pointer (some ⟨pb, 0, none⟩)] (w7.drewN m) fun e w' => e = .returned (.int .i64 S.last) ∧ w' = w7.drewN m) := fun m => (HB7.out.below (below_drewN (Below.refl _ _) m)).last.mono fun _ _ ⟨h1, h2⟩ => ⟨h1, h2.symm⟩
          have g0 := hG7.cell 0
          have g1 := hG7.cell 1
          have g2 := hG7.cell 2
          have g3 := hG7.cell 3
          simp only [List.getElem?_toArray, List.getElem?_cons_succ, List.getElem?_cons_zero] at g0 g1 g2 g3
          clear HN hR hB6 hb7 hG7
          go_wp2_with fail
          clear hw7 hgr
          go_quiet ((go_at_call 21; exact Calls.quiet_of_same (h21.out _)))
          obtain ⟨w8, hw8⟩ : ∃ w8, w7.drewN nq = w8 := ⟨_, rfl⟩
          have hb8 : Below w7.heap.size w7 w8 := by rw [← hw8]; exact below_drewN (Below.refl _ _) _
          rw [hw8]
          have HB8 := Lib.hid (HB7.out.below hb8)
          have HR8 := Lib.hid (HR7.out.below hb8)
          have HG8 := Lib.hid (HG7.out.below hb8 HG7.out.lt)
          have g0 := HG8.out.cell 0
          have g1 := HG8.out.cell 1
          have g2 := HG8.out.cell 2
          have g3 := HG8.out.cell 3
          simp only [List.getElem?_toArray, List.getElem?_cons_succ, List.getElem?_cons_zero] at g0 g1 g2 g3
          have hrl := HR8.out.length
          have HRL := Lib.hid hrl.1
          have hrl2 := hrl.2.1
          have hrl3 := hrl.2.2
          have HKR : Hid (∀ r ∈ C.keep [] s.reads, RdOk S S.last r) := fun r hr => HK.out.reads r (keep_sub _ _ _ hr)
          have HAP : Hid ((C.keep [] s.reads).Pairwise fun x y => x.scan = false → y.scan = false → (x.key.toList == y.key.toList) = false) := keep_apart _ _
          have hX8 := Lib.hid (Below.refl w8.heap.size w8)
          have hgr8 : gr < w8.heap.size := HG8.out.lt
          clear hw8 hb8 HB7 HR7 HG7 h21 hrl HK
          generalize C.keep [] s.reads = K at *
          go_wp2_with fail
          go_loopw [118] (fun i wr => ∃ t : Nat, i = .int .i64 t ∧ t ≤ nr ∧ Hid (Below w8.heap.size w8 wr)) (fun i _ => nr - (intOf i).toNat)
          case atStart => exact ⟨0, rfl, by omega, hX8⟩
          case round =>
            obtain ⟨t, rfl, ht, hBt⟩ := hrel
            by_cases hlt3 : t < nr
            · obtain ⟨y, hy⟩ := some_at (show t < K.length by rw [HRL.out]; exact hlt3)
              obtain ⟨hys, hyt, hyo⟩ := HKR.out y (List.mem_of_getElem? hy)
              obtain ⟨gk, off, P, np, cp, rfl, hgk, x0, x1, x2, x3, hPs⟩ := C.sl_read (HR8.out.below hBt.out) hy
              have HY := Lib.hid hy
              obtain ⟨ysc, yk, yt, yp⟩ := y
              simp only at x0 x1 x2 x3 hys hyt hyo hPs
              obtain ⟨wa, hwa⟩ : ∃ wa, wr.alloc (.cells #[.bool ysc, .string yk, .string yt, .slice P np cp] 63) = wa := ⟨_, rfl⟩
              obtain ⟨gy, hgy⟩ : ∃ gy, wr.heap.size = gy := ⟨_, rfl⟩
              have hba : Below wr.heap.size wr wa := by rw [← hwa]; exact (Below.refl _ _).alloc (Nat.le_refl _) _
              have hGY : Blk wa gy #[.bool ysc, .string yk, .string yt, .slice P np cp] 63 := by rw [← hgy, ← hwa]; exact Blk.new _ _ _
              have hBa : Below w8.heap.size w8 wa := hBt.out.trans (hba.mono hBt.out.size)
              have HBa := Lib.hid hBa
              have HGY := Lib.hid hGY
              have HPS := Lib.hid (hPs.below hba)
              have z0 := hGY.cell 0
              have z1 := hGY.cell 1
              have z2 := hGY.cell 2
              have z3 := hGY.cell 3
              have r1 : wa.cell? ⟨gr, 1, none⟩ = some (.int .i64 S.last) := (HG8.out.below hBa hgr8).cell 1
              have hgra : gr < wa.heap.size := Nat.lt_of_lt_of_le hgr8 hBa.size
              have hgya : gy < wa.heap.size := hGY.lt
              simp only [List.getElem?_toArray, List.getElem?_cons_succ, List.getElem?_cons_zero] at z0 z1 z2 z3
              clear hy hPs hba hGY hBa g0 g1 g2
              cases ysc
              · have hv : ∃ (v : ByteArray) (e : Int), getS S yk S.last = (v, e) ∧ (e = 0 ∧ yp = [⟨yk, v, false⟩] ∨ e = 8 ∧ yp = []) := by
                  rcases hyo with ⟨h, -⟩ | ⟨-, ⟨v, h1, h2⟩ | ⟨v, h1, h2⟩⟩
                  · cases h
                  · exact ⟨v, 0, h1, .inl ⟨rfl, h2⟩⟩
                  · exact ⟨v, 8, h1, .inr ⟨rfl, h2⟩⟩
                obtain ⟨v, e, hge, hve⟩ := hv
                have HSG := Lib.hid ((HB8.out.below HBa.out).sget yk S.last (by unfold maxLen; omega))
                rw [hge] at HSG
                clear hge hyo
                go_wp2_with fail
                clear hwa hgy x0 x1 x2 x3
                refine HSG.out.mono ?_
                rintro e' w9 ⟨rfl, hb9⟩
                have z0' : w9.cell? ⟨gy, 0, none⟩ = some (.bool false) := (hb9.cell (p := ⟨gy, 0, none⟩) hgya).trans z0
                have z1' : w9.cell? ⟨gy, 1, none⟩ = some (.string yk) := (hb9.cell (p := ⟨gy, 1, none⟩) hgya).trans z1
                have z3' : w9.cell? ⟨gy, 3, none⟩ = some (.slice P np cp) := (hb9.cell (p := ⟨gy, 3, none⟩) hgya).trans z3
                have HB9 : Hid (Below w8.heap.size w8 w9) := HBa.out.trans (hb9.mono HBa.out.size)
                have hnp : yp.length = np := HPS.out.length.1
                have HP9 := Lib.hid (HPS.out.below hb9)
                have HGY9 : Hid (Blk w9 gy #[.bool false, .string yk, .string yt, .slice P np cp] 63) := HGY.out.below hb9 HGY.out.lt
                have hgy9 : gy < w9.heap.size := HGY9.out.lt
                have hgr9 : gr < w9.heap.size := Nat.lt_of_lt_of_le hgr8 HB9.out.size
                have r3 : w9.cell? ⟨gr, 3, none⟩ = some (.slice (some ⟨gk, off, none⟩) nr cr) := (HB9.out.cell (p := ⟨gr, 3, none⟩) hgr8).trans g3
                have hhi : ∀ W', (Instr.slice 31 (.slice (some ⟨gk, off, none⟩) nr cr) none (some (.int .i64 (t : Int))) none).run Try.prog W' = .ok (.slice (some ⟨gk, off, none⟩) t cr) W' := fun W' =>
                  run_slice_hi (sz := 4) Try.underlying31 (by kernel_rfl) (some ⟨gk, off, none⟩) (by omega) W'
                clear hb9 z0 z1 z2 z3 r1 hgra hgya HSG HPS HGY
                rcases hve with ⟨rfl, hyp⟩ | ⟨rfl, hyp⟩
                case' inl =>
                  obtain ⟨gp, offp, hP, hgp, p0, p1, -⟩ := sl_pair HP9.out (i := 0) (by rw [hyp]; rfl)
                  subst hP
                  obtain rfl : np = 1 := by rw [← hnp, hyp]; rfl
                  simp only [Nat.zero_mul, Nat.add_zero] at p0 p1
                  clear hyp hnp HP9
                  go_wp2_with fail
                  go_quiet (fail)
                case' inr =>
                  obtain rfl : np = 0 := by rw [← hnp, hyp]; rfl
                  clear hyp hnp HP9
                  go_wp2_with fail
                  go_quiet (fail)
                all_goals
                  obtain ⟨wd, hwd⟩ : ∃ wd, w9.drewN nq = wd := ⟨_, rfl⟩
                  have hbd : Below w9.heap.size w9 wd := by rw [← hwd]; exact below_drewN (Below.refl _ _) _
                  rw [hwd]
                  have HBD : Hid (Below w8.heap.size w8 wd) := HB9.out.trans (hbd.mono HB9.out.size)
                  have HGYD := Lib.hid (HGY9.out.below hbd HGY9.out.lt)
                  have d3 : wd.cell? ⟨gr, 3, none⟩ = some (.slice (some ⟨gk, off, none⟩) nr cr) := (hbd.cell (p := ⟨gr, 3, none⟩) hgr9).trans r3
                  have hXD := Lib.hid (Below.refl wd.heap.size wd)
                  have hgyd : Hid (gy < wd.heap.size) := HGYD.out.lt
                  clear hwd hbd z0' z1' z3' HGY9 r3 HB9 hgy9 hgr9
                  go_wp2_with fail
                  clear d3 hhi
                  go_loopw [189] (fun i wr => ∃ q : Nat, i = .int .i64 q ∧ q ≤ t ∧ Hid (Below wd.heap.size wd wr)) (fun i _ => t - (intOf i).toNat)
                  case atStart => exact ⟨0, rfl, by omega, hXD⟩
                  case round =>
                    obtain ⟨q, rfl, hqt, hBq⟩ := hrel
                    by_cases hlt4 : q < t
                    · obtain ⟨z, hz⟩ := some_at (show q < K.length by rw [HRL.out]; omega)
                      have hne : z.scan = false → (z.key.toList == yk.toList) = false := fun h => apart_at HAP.out hlt4 hz HY.out h rfl
                      obtain ⟨gk', off', P2, np2, cp2, hA', hgk2, x0, x1, x2, x3, -⟩ := C.sl_read (HR8.out.below (HBD.out.trans (hBq.out.mono HBD.out.size))) hz
                      injection hA' with hA'
                      injection hA' with e1 e2
                      subst e1 e2
                      have hqr : (q : Int) < nr := by omega
                      have s1 : wr.cell? ⟨gy, 1, none⟩ = some (.string yk) := (HGYD.out.below hBq.out hgyd.out).cell 1
                      have hgyr : gy < wr.heap.size := Nat.lt_of_lt_of_le hgyd.out hBq.out.size
                      obtain ⟨zsc, zk, zt, zp⟩ := z
                      simp only at x0 x1 x2 x3 hne
                      have HBn : ∀ o, Below wd.heap.size wd (wr.alloc o) := fun o => hBq.out.alloc hBq.out.size o
                      have HBN := Lib.hid HBn
                      clear hz HBn
                      cases zsc
                      · have hne' := hne rfl
                        clear hne
                        go_wp2
                        go_roundw
                        case rel => exact ⟨q + 1, by go_num, by omega, HBN.out _⟩
                        case measure => simp [intOf]; omega
                      · clear hne
                        go_wp2
                        go_roundw
                        case rel => exact ⟨q + 1, by go_num, by omega, HBN.out _⟩
                        case measure => simp [intOf]; omega
                    · obtain rfl : q = t := by omega
                      have HBF : Hid (Below w8.heap.size w8 wr) := HBD.out.trans (hBq.out.mono HBD.out.size)
                      go_wp2
                      go_roundw
                      case rel => exact ⟨q + 1, by go_num, by omega, HBF⟩
                      case measure => simp [intOf]; omega
              · have hsc : scanS S yk yt S.last 300 = (yp, 0) := by
                  rcases hyo with ⟨-, h⟩ | ⟨h, -⟩
                  · exact h
                  · cases h
                have HSC := Lib.hid ((HB8.out.below HBa.out).sscan yk yt S.last 300 (by unfold maxLen; omega) (by unfold maxLen; omega))
                rw [hsc] at HSC
                clear hsc hyo
                go_wp2_with fail
                clear hwa hgy x0 x1 x2 x3
                refine HSC.out.mono ?_
                rintro e w9 ⟨v9, rfl, hv9, hb9⟩
                obtain ⟨A9, c9, hv9e, -⟩ := hv9.form
                have hnp : yp.length = np := HPS.out.length.1
                rw [hnp] at hv9e
                subst hv9e
                have z3' : w9.cell? ⟨gy, 3, none⟩ = some (.slice P np cp) := (hb9.cell (p := ⟨gy, 3, none⟩) hgya).trans z3
                have HSM := Lib.hid (same_calls yp A9 P np c9 cp w9 (hv9.mono fun _ _ => trivial) (HPS.out.below hb9))
                have HB9 : Hid (Below w8.heap.size w8 w9) := HBa.out.trans (hb9.mono HBa.out.size)
                clear hv9 hb9 hnp z0 z1 z2 z3 r1 hgra hgya HSC HPS HGY
                go_wp2_with fail
                refine HSM.out.mono ?_
                rintro e w10 ⟨rfl, hb10⟩
                have HB10 : Hid (Below w8.heap.size w8 w10) := HB9.out.trans (hb10.mono HB9.out.size)
                clear hb10 z3' HSM
                go_wp2
                go_roundw
                case rel => exact ⟨t + 1, by go_num, by omega, HB10⟩
                case measure => simp [intOf]; omega
            · obtain rfl : t = nr := by omega
              have HLV := Lib.hid (hlive.out _ (HB8.out.be.trans (hBt.out.mono HB8.out.be.size)))
              go_wp2_with fail
              refine HLV.out.mono ?_
              rintro e w9 ⟨rfl, hb9⟩
              have HB9 := Lib.hid hb9
              clear hb9 HLV
              go_wp2
              go_ret
              exact ⟨rfl, HB9.out⟩
end Go.Proofs.Ytidfogcilegloaa
