import Derived.Test.YtnleldogmogkgaaW23
import Derived.Test.YtnleldogmogkgaaW28
import Derived.Test.YtnleldogmogkgaaW19
import Derived.Test.YtnleldogmogkgaaSto2
/-! StoreWrote. -/
namespace Go.Proofs.Ytnleldogmogkgaa
open Go.RowKit Go.Op

set_option maxHeartbeats 8000000 in
set_option maxRecDepth 100000 in
theorem wrotes_calls (acts : List SAct) (A : Option Addr) (n c : Nat) (x : SAct) (P : Option Addr) (np cp : Nat) (mid : ByteArray) (w : World) (hl : Sl tAct w (fun _ => True) (.slice A n c) acts) (ho : ∀ a ∈ acts, ActOk a) (hp : Sl tPair w (fun _ => True) (.slice P np cp) x.l) (hx : ActOk x) (hk : mid.size ≤ 140737488351232) :
    Calls Try.prog 4 #[.slice A n c, .agg #[.int .i64 x.kind, .int .i64 x.n, .int .i64 x.most, .slice P np cp, .string x.fr, .string x.to], .string mid] w fun e w' => e = .returned (.bool true) ∧ Below w.heap.size w w' := by
  have hln := hl.length
  obtain ⟨hln, hcap, hcm⟩ := hln
  obtain ⟨z0, hz0⟩ : ∃ z, w.heap.size = z := ⟨_, rfl⟩
  obtain ⟨C, hC⟩ : ∃ C, #[Value.int .i64 x.kind, .int .i64 x.n, .int .i64 x.most, .slice P np cp, .string x.fr, .string x.to] = C := ⟨_, rfl⟩
  obtain ⟨wx, hwx⟩ : ∃ wx, w.alloc (.cells C 25) = wx := ⟨_, rfl⟩
  have hzx : wx.heap.size = z0 + 1 := by rw [← hwx]; simp [hz0]
  have hbx : Below w.heap.size w wx := by rw [← hwx]; exact (Below.refl _ _).alloc (Nat.le_refl _) _
  have hBX : Blk wx z0 C 25 := by rw [← hwx, ← hz0]; exact Blk.new _ _ _
  have HL := Lib.hid (hl.below hbx)
  have HO := Lib.hid ho
  have HLN := Lib.hid hln
  have HP := Lib.hid (hp.below hbx)
  have HX := Lib.hid hx
  have HBX := Lib.hid hBX
  have HWX := Lib.hid hbx
  have HZ0 := Lib.hid hz0
  have HMD := Lib.hid hk
  have HLI := Lib.hid (fun W (hM : Sl tAct W (fun _ => True) (.slice A n c) acts) => light_calls acts A n c W hM ho)
  clear hl ho hp hx hk hbx hBX hln
  subst hC
  go_enter Try.func4, Try.ntmps4
  go_wp2_with fail
  refine (my_new wx wx (Below.refl _ _)).mono ?_
  rintro e w1 ⟨rfl, hM1⟩
  rw [hzx] at hM1 ⊢
  have HM1 := Lib.hid hM1
  clear hM1
  have HLJ := Lib.hid (HLI.out w1 ((HM1.out.arg HL.out).mono fun _ _ => trivial))
  go_wp2_with fail
  refine HLJ.out.mono ?_
  rintro e w2 ⟨b, rfl, hb, hb2⟩
  have HM2 := Lib.hid (HM1.out.below hb2)
  have HBE2 : Hid (Below w.heap.size w w2) := HWX.out.trans (HM2.out.be.mono HWX.out.size)
  have hlive : Hid (∀ W, Below w.heap.size w W → Calls Try.prog 12 #[] W fun e w' => e = .returned (.bool true) ∧ Below w.heap.size w w') := fun W h => (lives_calls W).mono fun e w' ⟨e1, h1⟩ => ⟨e1, h.trans (h1.mono h.size)⟩
  clear HLJ HM1 hb2 hwx
  cases b
  · clear hb
    go_wp2_with fail
    refine (hlive.out _ HBE2.out).mono ?_
    rintro e w9 ⟨rfl, hb9⟩
    go_wp2
    go_ret
    exact ⟨rfl, hb9⟩
  · obtain ⟨hn60, hfew⟩ := hb rfl
    have HFEW := Lib.hid hfew
    have hB2 := HBX.out.below HM2.out.be (by omega)
    have y0 := hB2.cell 0
    have y1 := hB2.cell 1
    have y2 := hB2.cell 2
    have y3 := hB2.cell 3
    have y4 := hB2.cell 4
    have y5 := hB2.cell 5
    have hz2 : z0 + 1 ≤ w2.heap.size := by have := HM2.out.be.size; omega
    obtain ⟨w3, hw3⟩ : ∃ w3, w2.alloc (.cells #[.int .i64 x.kind, .int .i64 x.n, .int .i64 x.most, .slice P np cp, .string x.fr, .string x.to] 25) = w3 := ⟨_, rfl⟩
    have hb3 : Below w2.heap.size w2 w3 := by rw [← hw3]; exact (Below.refl _ _).alloc (Nat.le_refl _) _
    have hB3 : Blk w3 w2.heap.size #[.int .i64 x.kind, .int .i64 x.n, .int .i64 x.most, .slice P np cp, .string x.fr, .string x.to] 25 := by rw [← hw3]; exact Blk.new _ _ _
    have HM3 := Lib.hid (HM2.out.below hb3)
    have HLX := Lib.hid (light_calls [x] (some ⟨w2.heap.size, 0, none⟩) 1 1 w3 (one_act hB3 ((HM3.out.arg HP.out).mono fun _ _ => trivial)) (by intro a ha; rw [List.mem_singleton.1 ha]; exact HX.out))
    clear hb hfew hB2 hb3 hB3 HM2 HBE2
    go_wp2_with fail
    refine HLX.out.mono ?_
    rintro e w4 ⟨b, rfl, hb, hb4⟩
    have HM4 := Lib.hid (HM3.out.below hb4)
    have HBE4 : Hid (Below w.heap.size w w4) := HWX.out.trans (HM4.out.be.mono HWX.out.size)
    clear HLX HM3 hb4 hw3 y0 y1 y2 y3 y4 y5
    by_cases hgo : b = true ∧ (mid.size : Int) ≤ 200
    case neg =>
      have hno : b = false ∨ (b = true ∧ 200 < (mid.size : Int)) := by
        cases b
        · exact .inl rfl
        · exact .inr ⟨rfl, by simp at hgo; omega⟩
      clear hgo hb
      rcases hno with rfl | ⟨rfl, hno⟩
      · go_wp2_with fail
        refine (hlive.out _ HBE4.out).mono ?_
        rintro e w9 ⟨rfl, hb9⟩
        go_wp2
        go_ret
        exact ⟨rfl, hb9⟩
      · go_wp2_with fail
        refine (hlive.out _ HBE4.out).mono ?_
        rintro e w9 ⟨rfl, hb9⟩
        go_wp2
        go_ret
        exact ⟨rfl, hb9⟩
    case pos =>
      obtain ⟨rfl, hk200⟩ := hgo
      have hfx := (hb rfl).2 x (by simp)
      obtain ⟨-, hf1, hf2⟩ := hfx
      have HA0 : Hid (∃ kv X S, Rnd wx w4 (z0 + 1) kv X S 0) := ⟨_, _, _, HM4.out, by simp [Sto.new], by simp [Sto.new]⟩
      clear hb HM4 HBE4
      go_wp2
      go_loopw [28] (fun i wr => ∃ j : Nat, i = .int .i64 j ∧ j ≤ n ∧ Hid (∃ kv X S, Rnd wx wr (z0 + 1) kv X S j)) (fun i _ => n - (intOf i).toNat)
      case atStart => exact ⟨0, rfl, by omega, HA0⟩
      case round =>
        obtain ⟨j, rfl, hj, hAt⟩ := hrel
        clear HA0
        obtain ⟨kv, X, S, hAt⟩ := hAt.out
        obtain ⟨hMy, hla, hen⟩ := hAt
        have hla0 : 0 ≤ S.last := by have := hMy.st.ok.fl; have := hMy.st.ok.le; omega
        by_cases hlt : j < n
        · obtain ⟨a, ha⟩ := some_at (show j < acts.length by rw [HLN.out]; exact hlt)
          obtain ⟨b, off, Pa, na, ca, rfl, hbl, x0, x1, x2, x3, x4, x5, hPa⟩ := sl_act ((hMy.arg HL.out).mono (ok' := fun _ => True) fun _ _ => trivial) ha
          have hPw : Hid (Sl tPair wx (fun _ => True) (.slice Pa na ca) a.l) := by
            obtain ⟨b', off', P', np', cp', e', -, -, -, -, y3, -, -, hP'⟩ := sl_act HL.out ha
            injection e' with e'
            injection e' with e1 e2
            subst e1 e2
            have hlt' : b < wx.heap.size := World.block_lt_of_cell? wx _ y3
            have := (hMy.be.cell (p := ⟨b, off + j * 6 + 3, none⟩) hlt').trans y3
            rw [this] at x3
            injection x3 with x3
            injection x3 with q1 q2 q3
            subst q1 q2 q3
            exact hP'
          obtain ⟨-, -, ha3, ha4, ha5⟩ := HO.out a (List.mem_of_getElem? ha)
          obtain ⟨hfa, -, -⟩ := HFEW.out a (List.mem_of_getElem? ha)
          have HSH := Lib.hid ha3
          obtain ⟨ak, hak⟩ : ∃ q, a.kind = q := ⟨_, rfl⟩
          rw [hak] at x0
          clear hak
          obtain ⟨ga, hga⟩ : ∃ ga, wr.heap.size = ga := ⟨_, rfl⟩
          have hba := (Below.refl wr.heap.size wr).alloc (Nat.le_refl _) (.cells #[.int .i64 ak, .int .i64 a.n, .int .i64 a.most, .slice Pa na ca, .string a.fr, .string a.to] 25)
          have hPb : Blk (wr.alloc (.cells #[.int .i64 ak, .int .i64 a.n, .int .i64 a.most, .slice Pa na ca, .string a.fr, .string a.to] 25)) ga #[.int .i64 ak, .int .i64 a.n, .int .i64 a.most, .slice Pa na ca, .string a.fr, .string a.to] 25 := by rw [← hga]; exact Blk.new _ _ _
          have hMa := hMy.below hba
          obtain ⟨Wa, hWa⟩ : ∃ Wa, wr.alloc (.cells #[.int .i64 ak, .int .i64 a.n, .int .i64 a.most, .slice Pa na ca, .string a.fr, .string a.to] 25) = Wa := ⟨_, rfl⟩
          rw [hWa] at hPb hMa
          have HMa := Lib.hid hMa
          have y0 := hPb.cell 0
          have y3 := hPb.cell 3
          clear hba hPa ha ha3 hMy hPb hMa
          by_cases hk0 : ak = 0
          · subst hk0
            go_wp2_with fail
            clear hWa x0 x1 x2 x3 x4 x5
            have h14 : Hid (∀ W, Below Wa.heap.size Wa W → Calls Try.prog 14 #[.pointer (some ⟨z0 + 1 + 1, 0, none⟩)] W fun e w' => e = .returned (.int .i64 S.last) ∧ W = w') := fun W h => slast_calls (z0 + 1 + 1) (z0 + 1) kv X S W (HMa.out.below h).st
            have h13 : Hid (∀ W, Below Wa.heap.size Wa W → Calls Try.prog 13 #[.pointer (some ⟨z0 + 1 + 1, 0, none⟩), .int .i64 (S.last + 1), .slice Pa na ca] W fun e w' => ∃ q : Int, e = .returned (.int .i64 q) ∧ Hid (∃ kv X S, Rnd wx w' (z0 + 1) kv X S (j + 1))) := fun W h => by
              have hM := HMa.out.below h
              have hsz := inst_size hM.st.ok (S.last + 1) a.l
              refine (hM.install (m := S.last + 1) (hM.arg hPw.out) HSH.out (by omega) (by omega) (by omega) (by omega)).mono fun e w' ⟨e1, kv', X', h1, _, _⟩ => ⟨_, e1, _, _, _, h1, by omega, by omega⟩
            have hwr : IntKind.i64.wrap (S.last + 1) = S.last + 1 := IntWalk.i64_in _ (by omega)
            have hbW : Below Wa.heap.size Wa Wa := Below.refl _ _
            go_region_law (first
              | (go_simp; go_at_call 14; refine (h14.out _ ?_).mono ?_; (focus (repeat (first | with_reducible exact hbW | apply Below.drew))); rintro e w6 ⟨rfl, rfl⟩)
              | (go_simp; go_at_call 13; refine (h13.out _ ?_).mono ?_; (focus (repeat (first | with_reducible exact hbW | apply Below.drew))); rintro e w6 ⟨q6, rfl, hR⟩))
            all_goals
              have R := hR
              clear hwr h14 h13 y0 y3
              go_wp2
              go_roundw
              case rel => exact ⟨j + 1, by go_num, by omega, R⟩
              case measure => simp [intOf]; omega
          · have hk0' : (ak == 0) = false := by simpa using hk0
            have R : Hid (∃ kv X S, Rnd wx Wa (z0 + 1) kv X S (j + 1)) := ⟨_, _, _, HMa.out, by omega, by omega⟩
            go_wp2_with fail
            clear hk0 hk0'
            go_roundw
            case rel => exact ⟨j + 1, by go_num, by omega, R⟩
            case measure => simp [intOf]; omega
        · obtain rfl : j = n := by omega
          have HMy := Lib.hid hMy
          have hBr := HBX.out.below hMy.be (by omega)
          have hzr : z0 < wr.heap.size := hBr.lt
          have HBr := Lib.hid hBr
          have y1 := hBr.cell 1
          have y4 := hBr.cell 4
          have y5 := hBr.cell 5
          clear hMy hBr
          have hWR : Hid (∀ (k : ByteArray) (q : Bool) W, Below wr.heap.size wr W → wrote S.ents k x.n = q → k.size ≤ maxLen → Calls Try.prog 18 #[.pointer (some ⟨z0 + 1 + 1, 0, none⟩), .string k, .int .i64 x.n] W fun e w' => e = .returned (.bool q) ∧ Below W.heap.size W w') := fun k q W h e hk => by
            rw [← e]; exact swrote_calls (z0 + 1 + 1) (z0 + 1) kv X S k x.n W (HMy.out.below h).st hk
          have hWI : Hid (∀ (a b : ByteArray) (q : Bool) W, Below wr.heap.size wr W → within S.ents a b x.n = q → a.size ≤ maxLen → b.size ≤ maxLen → Calls Try.prog 19 #[.pointer (some ⟨z0 + 1 + 1, 0, none⟩), .string a, .string b, .int .i64 x.n] W fun e w' => e = .returned (.bool q) ∧ Below W.heap.size W w') := fun a b q W h e ha hb => by
            rw [← e]; exact swithin_calls (z0 + 1 + 1) (z0 + 1) kv X S a b x.n W (HMy.out.below h).st ha hb
          have hBEr : Hid (Below w.heap.size w wr) := HWX.out.trans (HMy.out.be.mono HWX.out.size)
          have hPT := wrote_point HMy.out.st.ok.rising x.fr x.n
          obtain ⟨q0, hq0⟩ : ∃ q, wrote S.ents x.fr x.n = q := ⟨_, rfl⟩
          rw [hq0] at hPT
          have HQ0 := Lib.hid hq0
          have HPT := Lib.hid hPT.symm
          clear hq0 hPT
          have hsz1 : Hid (x.fr.size ≤ maxLen ∧ x.to.size ≤ maxLen ∧ mid.size ≤ maxLen ∧ (x.fr ++ ⟨#[0]⟩).size ≤ maxLen) := by
            refine ⟨by unfold maxLen; omega, by unfold maxLen; omega, by unfold maxLen; omega, ?_⟩
            rw [ByteArray.size_append]
            show x.fr.size + 1 ≤ _
            unfold maxLen; omega
          have hone : (⟨#[0]⟩ : ByteArray).size = 1 := rfl
          go_wp2_with fail
          refine wp_region_later (by kernel_rfl) (by kernel_rfl) ?_
          repeat (go_big_quiet_step (first
            | (go_at_call 18; exact calls_later (hWR.out _ _ _ (later_below _) HQ0.out hsz1.out.1))
            | (go_at_call 19; exact calls_later (hWI.out _ _ _ _ (later_below _) HPT.out hsz1.out.1 hsz1.out.2.2.2))))
          refine wpQuiet_nil ?_
          rintro _ ⟨e, rfl⟩
          have HLT := Lib.hid (later_below e)
          have hlz : z0 < (later wr e).heap.size := Nat.lt_of_lt_of_le hzr HLT.out.size
          have HBl := HBr.out.below HLT.out hzr
          have y1 := HBl.cell 1
          have y4 := HBl.cell 4
          have y5 := HBl.cell 5
          clear HBl
          generalize later wr e = w5 at *
          have hB5 : Hid (Below w.heap.size w w5) := hBEr.out.trans (HLT.out.mono hBEr.out.size)
          have HM5 := Lib.hid (HMy.out.below HLT.out)
          have hWJ : Hid (∀ (a b : ByteArray) (q : Bool) W, Below w5.heap.size w5 W → within S.ents a b x.n = q → a.size ≤ maxLen → b.size ≤ maxLen → Calls Try.prog 19 #[.pointer (some ⟨z0 + 1 + 1, 0, none⟩), .string a, .string b, .int .i64 x.n] W fun e w' => e = .returned (.bool q) ∧ Below W.heap.size W w') := fun a b q W h e ha hb => by
            rw [← e]; exact swithin_calls (z0 + 1 + 1) (z0 + 1) kv X S a b x.n W (HM5.out.below h).st ha hb
          clear hWR hWI HPT HQ0 HLT hBEr HMy HBr
          cases h1 : bytesLess mid.toList x.fr.toList
          case true =>
            go_wp2_with fail
            refine (hlive.out _ hB5.out).mono ?_
            rintro e w9 ⟨rfl, hb9⟩
            go_wp2
            go_ret
            exact ⟨rfl, hb9⟩
          case false =>
          have h2c : (bytesLess mid.toList x.to.toList = false ∧ (mid.toList == x.to.toList) = false) ∨ (bytesLess mid.toList x.to.toList = true ∧ (mid.toList == x.to.toList) = false ∧ klt x.to mid = false) ∨ (bytesLess mid.toList x.to.toList = false ∧ (mid.toList == x.to.toList) = true ∧ klt x.to mid = false) := by
            rcases klt_cases mid x.to with ⟨g1, g2, g3⟩ | ⟨g1, g2, g3⟩ | ⟨g1, g2, g3⟩
            · exact .inr (.inl ⟨g1, by rw [beq_key]; exact decide_eq_false g3, g2⟩)
            · exact .inr (.inr ⟨g2, by rw [beq_key]; exact decide_eq_true g1, g3⟩)
            · exact .inl ⟨g1, by rw [beq_key]; exact decide_eq_false g3⟩
          rcases h2c with ⟨h2, h3⟩ | ⟨h2, h3, h5⟩ | ⟨h2, h3, h5⟩
          · go_wp2_with fail
            refine (hlive.out _ hB5.out).mono ?_
            rintro e w9 ⟨rfl, hb9⟩
            go_wp2
            go_ret
            exact ⟨rfl, hb9⟩
          all_goals
            have H5 := Lib.hid h5
            clear h5
            have HSP : Hid (within S.ents x.fr x.to x.n = (within S.ents x.fr mid x.n || within S.ents mid x.to x.n)) := within_split h1 H5.out x.n
            have HLA : Hid (¬ x.n < S.last → within S.ents x.fr x.to x.n = false) := fun h => within_last HM5.out.st.ok _ _ (by omega)
            cases ham : within S.ents x.fr mid x.n
            case true =>
              have HAM := Lib.hid ham
              have HMB : Hid (within S.ents mid x.to x.n = within S.ents mid x.to x.n) := rfl
              have HAB : Hid (within S.ents x.fr x.to x.n = true) := by show _ = _; rw [HSP.out, ham]; rfl
              have hlt : x.n < S.last := by
                apply Classical.byContradiction
                intro h
                have := HLA.out h
                rw [HAB.out] at this; cases this
              clear ham
              clear hone
              go_wp2_with fail
              refine wp_region_later (by kernel_rfl) (by kernel_rfl) ?_
              repeat (go_big_quiet_step (first
                | (go_at_call 14; exact calls_later ((slast_calls (z0 + 1 + 1) (z0 + 1) kv X S _ (HM5.out.below (later_below _)).st).mono fun e w' ⟨h1, h2⟩ => ⟨h1, h2 ▸ Below.refl _ _⟩))
                | (go_at_call 12; exact calls_later (lives_calls _))
                | (go_at_call 19; exact calls_later (hWJ.out _ _ _ _ (later_below _) (by first | exact HAB.out | exact HAM.out | exact HMB.out) (by first | exact hsz1.out.1 | exact hsz1.out.2.2.1) (by first | exact hsz1.out.2.1 | exact hsz1.out.2.2.1)))))
              refine wpQuiet_nil ?_
              rintro _ ⟨e, rfl⟩
              have hbe := Lib.hid (hB5.out.trans ((later_below e).mono hB5.out.size))
              go_wp2
              go_ret
              exact ⟨rfl, hbe.out⟩
            case false =>
              have HAM := Lib.hid ham
              cases hmb : within S.ents mid x.to x.n
              case true =>
                have HMB := Lib.hid hmb
                have HAB : Hid (within S.ents x.fr x.to x.n = true) := by show _ = _; rw [HSP.out, ham, hmb]; rfl
                have hlt : x.n < S.last := by
                  apply Classical.byContradiction
                  intro h
                  have := HLA.out h
                  rw [HAB.out] at this; cases this
                clear ham hmb
                clear hone
                go_wp2_with fail
                refine wp_region_later (by kernel_rfl) (by kernel_rfl) ?_
                repeat (go_big_quiet_step (first
                  | (go_at_call 14; exact calls_later ((slast_calls (z0 + 1 + 1) (z0 + 1) kv X S _ (HM5.out.below (later_below _)).st).mono fun e w' ⟨h1, h2⟩ => ⟨h1, h2 ▸ Below.refl _ _⟩))
                  | (go_at_call 12; exact calls_later (lives_calls _))
                  | (go_at_call 19; exact calls_later (hWJ.out _ _ _ _ (later_below _) (by first | exact HAB.out | exact HAM.out | exact HMB.out) (by first | exact hsz1.out.1 | exact hsz1.out.2.2.1) (by first | exact hsz1.out.2.1 | exact hsz1.out.2.2.1)))))
                refine wpQuiet_nil ?_
                rintro _ ⟨e, rfl⟩
                have hbe := Lib.hid (hB5.out.trans ((later_below e).mono hB5.out.size))
                go_wp2
                go_ret
                exact ⟨rfl, hbe.out⟩
              case false =>
                have HMB := Lib.hid hmb
                have HAB : Hid (within S.ents x.fr x.to x.n = false) := by show _ = _; rw [HSP.out, ham, hmb]; rfl
                by_cases hlt : x.n < S.last
                · clear ham hmb
                  clear hone
                  go_wp2_with fail
                  refine wp_region_later (by kernel_rfl) (by kernel_rfl) ?_
                  repeat (go_big_quiet_step (first
                    | (go_at_call 14; exact calls_later ((slast_calls (z0 + 1 + 1) (z0 + 1) kv X S _ (HM5.out.below (later_below _)).st).mono fun e w' ⟨h1, h2⟩ => ⟨h1, h2 ▸ Below.refl _ _⟩))
                    | (go_at_call 12; exact calls_later (lives_calls _))
                    | (go_at_call 19; exact calls_later (hWJ.out _ _ _ _ (later_below _) (by first | exact HAB.out | exact HAM.out | exact HMB.out) (by first | exact hsz1.out.1 | exact hsz1.out.2.2.1) (by first | exact hsz1.out.2.1 | exact hsz1.out.2.2.1)))))
                  refine wpQuiet_nil ?_
                  rintro _ ⟨e, rfl⟩
                  have hbe := Lib.hid (hB5.out.trans ((later_below e).mono hB5.out.size))
                  go_wp2
                  go_ret
                  exact ⟨rfl, hbe.out⟩
                · have hlt' : decide (x.n < S.last) = false := decide_eq_false hlt
                  clear ham hmb
                  clear hone
                  go_wp2_with fail
                  refine wp_region_later (by kernel_rfl) (by kernel_rfl) ?_
                  repeat (go_big_quiet_step (first
                    | (go_at_call 14; exact calls_later ((slast_calls (z0 + 1 + 1) (z0 + 1) kv X S _ (HM5.out.below (later_below _)).st).mono fun e w' ⟨h1, h2⟩ => ⟨h1, h2 ▸ Below.refl _ _⟩))
                    | (go_at_call 12; exact calls_later (lives_calls _))
                    | (go_at_call 19; exact calls_later (hWJ.out _ _ _ _ (later_below _) (by first | exact HAB.out | exact HAM.out | exact HMB.out) (by first | exact hsz1.out.1 | exact hsz1.out.2.2.1) (by first | exact hsz1.out.2.1 | exact hsz1.out.2.2.1)))))
                  refine wpQuiet_nil ?_
                  rintro _ ⟨e, rfl⟩
                  have hbe := Lib.hid (hB5.out.trans ((later_below e).mono hB5.out.size))
                  go_wp2
                  go_ret
                  exact ⟨rfl, hbe.out⟩
end Go.Proofs.Ytnleldogmogkgaa
