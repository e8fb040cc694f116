import Derived.Test.YtnleldogmogkgaaW32
/-! StoreKeeps. -/
namespace Go.Proofs.Ytnleldogmogkgaa
open Go.RowKit Go.Op

/-- A round's store, and what was told of it. -/
def KRnd (w W : World) (z q : Nat) (s : Int) (v : Value) (j : Nat) : Prop := ∃ kv X S, Rnd w W z kv X S j ∧ (q < j → KeepAt W X S s v)

set_option maxHeartbeats 16000000 in
set_option maxRecDepth 100000 in
theorem keeps_calls (acts : List SAct) (A : Option Addr) (n c : Nat) (m : Int) (w : World) (hl : Sl tAct w (fun _ => True) (.slice A n c) acts) (ho : ∀ a ∈ acts, ActOk a) (hm : 0 ≤ m ∧ m < 18446744073709551616) :
    Calls Try.prog 6 #[.slice A n c, .int .u64 m] w fun e w' => e = .returned (.bool true) ∧ Below w.heap.size w w' := by
  have hln := hl.length
  have HL := Lib.hid hl
  have HO := Lib.hid ho
  obtain ⟨hln, hcap, hcm⟩ := hln
  have HLN := Lib.hid hln
  clear hl ho hln
  go_enter Try.func6, Try.ntmps6
  go_wp2_with fail
  refine (my_new w w (Below.refl _ _)).mono ?_
  rintro e w1 ⟨rfl, hM1⟩
  obtain ⟨z, hz⟩ : ∃ z, w.heap.size = z := ⟨_, rfl⟩
  rw [hz] at hM1 ⊢
  have HM1 := Lib.hid hM1
  have HLI := Lib.hid (light_calls acts A n c w1 ((hM1.arg HL.out).mono fun _ _ => trivial) HO.out)
  clear hM1
  go_wp2_with fail
  refine HLI.out.mono ?_
  rintro e w2 ⟨b, rfl, hb, hb2⟩
  have HM2 := Lib.hid (HM1.out.below hb2)
  clear HLI HM1 hb2
  have hlive : Hid (∀ W, Below w.heap.size w W → Calls Try.prog 12 #[] W fun e w' => e = .returned (.bool true) ∧ Below w.heap.size w w') := fun W h => (lives_calls W).mono fun e w' ⟨e1, h1⟩ => ⟨e1, h.trans (h1.mono h.size)⟩
  cases b
  case false =>
    have HB2 := Lib.hid HM2.out.be
    clear hb
    go_wp2_with fail
    refine (hlive.out _ HB2.out).mono ?_
    rintro e w3 ⟨rfl, hb3⟩
    go_wp2
    go_ret
    exact ⟨rfl, hb3⟩
  case true =>
    obtain ⟨hn60, hfew⟩ := hb rfl
    have HFEW := Lib.hid hfew
    obtain ⟨q, hq, hqn⟩ : ∃ q : Nat, m.tmod ((n : Int) + 1) = (q : Int) ∧ q ≤ n := ⟨(m.tmod ((n : Int) + 1)).toNat, by have := Int.tmod_nonneg ((n : Int) + 1) hm.1; omega, by have := Int.tmod_lt_of_pos m (show (0:Int) < (n : Int) + 1 by omega); omega⟩
    have HA0 : Hid (KRnd w w2 z q 0 (.slice none 0 0) 0) := ⟨_, _, _, ⟨HM2.out, by simp [Sto.new], by simp [Sto.new]⟩, fun h => absurd h (by omega)⟩
    clear hb hfew HM2
    go_wp2
    go_loopw [7, 8, 27] (fun vs vw i wr => ∃ (j : Nat) (s : Int) (P : Option Addr) (np cp : Nat), i = .int .i64 j ∧ j ≤ n ∧ vs = .int .i64 s ∧ vw = .slice P np cp ∧ Hid (KRnd w wr z q s (.slice P np cp) j)) (fun _ _ i _ => n - (intOf i).toNat)
    case atStart => exact ⟨0, 0, none, 0, 0, rfl, by omega, rfl, rfl, HA0⟩
    case round =>
      obtain ⟨j, s1, P1, n1, c1, rfl, hj, rfl, rfl, hAt⟩ := hrel
      clear HA0
      obtain ⟨kv, X, S, hRn, hkp⟩ := hAt.out
      obtain ⟨hMy, hla, hen⟩ := hRn
      have hla0 : 0 ≤ S.last := by have := hMy.st.ok.fl; have := hMy.st.ok.le; omega
      by_cases hlt : j < n
      · obtain ⟨a, ha⟩ := some_at (show j < acts.length by rw [HLN.out]; exact hlt)
        obtain ⟨b, off, Pa, na, ca, rfl, hbl, x0, x1, x2, x3, x4, x5, hPa⟩ := sl_act ((hMy.arg HL.out).mono (ok' := fun _ => True) fun _ _ => trivial) ha
        have hPw : Hid (Sl tPair w (fun _ => True) (.slice Pa na ca) a.l) := by
          obtain ⟨b', off', P', np', cp', e', -, -, -, -, y3, -, -, hP'⟩ := sl_act HL.out ha
          injection e' with e'
          injection e' with e1 e2
          subst e1 e2
          have hlt' : b < w.heap.size := World.block_lt_of_cell? w _ y3
          have := (hMy.be.cell (p := ⟨b, off + j * 6 + 3, none⟩) hlt').trans y3
          rw [this] at x3
          injection x3 with x3
          injection x3 with q1 q2 q3
          subst q1 q2 q3
          exact hP'
        obtain ⟨-, -, ha3, ha4, ha5⟩ := HO.out a (List.mem_of_getElem? ha)
        obtain ⟨hfa, -, -⟩ := HFEW.out a (List.mem_of_getElem? ha)
        have HSH := Lib.hid ha3
        obtain ⟨ak, hak⟩ : ∃ q, a.kind = q := ⟨_, rfl⟩
        rw [hak] at x0
        clear hak
        obtain ⟨ga, hga⟩ : ∃ ga, wr.heap.size = ga := ⟨_, rfl⟩
        have hba := (Below.refl wr.heap.size wr).alloc (Nat.le_refl _) (.cells #[.int .i64 ak, .int .i64 a.n, .int .i64 a.most, .slice Pa na ca, .string a.fr, .string a.to] 25)
        have hPb : Blk (wr.alloc (.cells #[.int .i64 ak, .int .i64 a.n, .int .i64 a.most, .slice Pa na ca, .string a.fr, .string a.to] 25)) ga #[.int .i64 ak, .int .i64 a.n, .int .i64 a.most, .slice Pa na ca, .string a.fr, .string a.to] 25 := by rw [← hga]; exact Blk.new _ _ _
        have hMa := hMy.below hba
        have HKA : Hid (q < j → KeepAt (wr.alloc (.cells #[.int .i64 ak, .int .i64 a.n, .int .i64 a.most, .slice Pa na ca, .string a.fr, .string a.to] 25)) X S s1 (.slice P1 n1 c1)) := fun h => (hkp h).below hba
        obtain ⟨wA, hWa⟩ : ∃ Wa, wr.alloc (.cells #[.int .i64 ak, .int .i64 a.n, .int .i64 a.most, .slice Pa na ca, .string a.fr, .string a.to] 25) = Wa := ⟨_, rfl⟩
        rw [hWa] at hPb hMa HKA
        have HMA := Lib.hid hMa
        have HPA := Lib.hid hPb
        have y0 := hPb.cell 0
        clear hba hPa ha ha3 hMy hPb hMa hkp
        rcases Nat.lt_trichotomy j q with hjq | hjq | hjq
        · have hjq1 : ((j : Int) == (q : Int)) = false := by simp; omega
          have hKA : Hid (q ≤ j → KeepAt wA X S s1 (.slice P1 n1 c1)) := fun h => absurd h (by omega)
          clear HKA
          have HKA := Lib.hid hKA.out
          clear hKA
          by_cases hk0 : ak = 0
          · subst hk0
            go_wp2_with fail
            have y3 := HPA.out.cell 3
            have h14 : Hid (∀ W, Below wA.heap.size wA W → Calls Try.prog 14 #[.pointer (some ⟨z + 1, 0, none⟩)] W fun e w' => e = .returned (.int .i64 S.last) ∧ W = w') := fun W h => slast_calls (z + 1) z kv X S W (HMA.out.below h).st
            have h13 : Hid (∀ W, Below wA.heap.size wA W → Calls Try.prog 13 #[.pointer (some ⟨z + 1, 0, none⟩), .int .i64 (S.last + 1), .slice Pa na ca] W fun e w' => ∃ u : Int, e = .returned (.int .i64 u) ∧ Hid (∃ kv' X' S', My w w' (z + 1) z kv' X' S' ∧ (S'.last ≤ 2 * ((j : Int) + 1) ∧ S'.ents.length ≤ 120 * (j + 1)) ∧ (q ≤ j → KeepAt w' X' S' s1 (.slice P1 n1 c1)))) := fun W h => by
              have hM := HMA.out.below h
              have hsz := inst_size hM.st.ok (S.last + 1) a.l
              refine (hM.install (m := S.last + 1) (hM.arg hPw.out) HSH.out (by omega) (by omega) (by omega) (by omega)).mono fun e w' ⟨e1, kv', X', h1, h2, h3⟩ => ⟨_, e1, _, _, _, h1, ⟨by omega, by omega⟩, fun hq => ((HKA.out hq).below h).inst hM h2 h3 _ _⟩
            have hwr : IntKind.i64.wrap (S.last + 1) = S.last + 1 := IntWalk.i64_in _ (by omega)
            have hbW : Below wA.heap.size wA wA := Below.refl _ _
            go_region_law (first
              | (go_simp; go_at_call 14; refine (h14.out _ ?_).mono ?_; (focus (repeat (first | with_reducible exact hbW | apply Below.drew))); rintro e w6 ⟨rfl, rfl⟩)
              | (go_simp; go_at_call 13; refine (h13.out _ ?_).mono ?_; (focus (repeat (first | with_reducible exact hbW | apply Below.drew))); rintro e wB ⟨u6, rfl, hR⟩))
            all_goals
              have HR := hR
              clear hwr h14 h13 y3 hR HMA HPA HKA
              obtain ⟨kvB, XB, SB, hmb, hlb, hkb⟩ := HR.out
              have HMB := Lib.hid hmb
              have HLB := Lib.hid hlb
              have HKB := Lib.hid hkb
              clear HR hmb hlb hkb
              have R : Hid (KRnd w wB z q s1 (.slice P1 n1 c1) (j + 1)) := ⟨_, _, _, ⟨HMB.out, HLB.out.1, HLB.out.2⟩, fun h => absurd h (by omega)⟩
              go_wp2
              go_roundw
              case rel => exact ⟨j + 1, s1, P1, n1, c1, by go_num, by omega, rfl, rfl, R⟩
              case measure => simp [intOf]; omega
          by_cases hk2 : ak = 2
          · subst hk2
            have y1 := HPA.out.cell 1

            have HNQ : Hid (q ≤ j → a.n ≤ s1 ∨ S.last < a.n) := fun hq => by
              exact absurd hq (by omega)

            have hC := Lib.hid (HMA.out.coll a.n)
            obtain ⟨hz1, hz2⟩ := coll_size S a.n
            go_wp2_with fail
            refine hC.out.mono ?_
            rintro e wB ⟨rfl, kvB, hM4, hC4⟩
            have HKB : Hid (q ≤ j → KeepAt wB X (Go.Proofs.Ytnleldogmogkgaa.coll S a.n).2 s1 (.slice P1 n1 c1)) := fun hq => (HKA.out hq).coll HMA.out hC4 (HNQ.out hq)
            have HMB := Lib.hid hM4
            obtain ⟨XB, hXB⟩ : ∃ XB, X = XB := ⟨_, rfl⟩
            obtain ⟨SB, hSB⟩ : ∃ SB, (Go.Proofs.Ytnleldogmogkgaa.coll S a.n).2 = SB := ⟨_, rfl⟩
            rw [hSB] at HKB HMB hz1 hz2
            rw [hXB] at HKB HMB
            have HLB : Hid (SB.last ≤ 2 * ((j : Int) + 1) ∧ SB.ents.length ≤ 120 * (j + 1)) := ⟨by omega, by omega⟩
            clear hC hM4 hC4 hSB hXB HMA HPA HKA y1 HNQ hz1 hz2

            have R : Hid (KRnd w wB z q s1 (.slice P1 n1 c1) (j + 1)) := ⟨_, _, _, ⟨HMB.out, HLB.out.1, HLB.out.2⟩, fun h => absurd h (by omega)⟩
            go_wp2
            go_roundw
            case rel => exact ⟨j + 1, s1, P1, n1, c1, by go_num, by omega, rfl, rfl, R⟩
            case measure => simp [intOf]; omega
          · have hk0' : (ak == 0) = false := by simpa using hk0
            have hk2' : (ak == 2) = false := by simpa using hk2
            obtain ⟨kvB, XB, SB, wB, HMB, HLB, HKB⟩ : ∃ kvB XB SB wB, Hid (My w wB (z + 1) z kvB XB SB) ∧ Hid (SB.last ≤ 2 * ((j : Int) + 1) ∧ SB.ents.length ≤ 120 * (j + 1)) ∧ Hid (wB = wA ∧ (q ≤ j → KeepAt wB XB SB s1 (.slice P1 n1 c1))) := ⟨kv, X, S, wA, HMA.out, ⟨by omega, by omega⟩, rfl, HKA.out⟩
            obtain ⟨rfl, hkb'⟩ := HKB.out
            clear HKB
            have HKB := Lib.hid hkb'
            clear HMA HPA HKA hkb'

            have R : Hid (KRnd w wB z q s1 (.slice P1 n1 c1) (j + 1)) := ⟨_, _, _, ⟨HMB.out, HLB.out.1, HLB.out.2⟩, fun h => absurd h (by omega)⟩
            go_wp2
            go_roundw
            case rel => exact ⟨j + 1, s1, P1, n1, c1, by go_num, by omega, rfl, rfl, R⟩
            case measure => simp [intOf]; omega
        · have hjq1 : ((j : Int) == (q : Int)) = true := by simp; omega
          have hjq2 : j ≤ q := by omega
          have hjq3 : q ≤ j := by omega
          have hjq4 : decide (q < j) = false := decide_eq_false (by omega)
          clear hjq HKA
          have HKS := Lib.hid (kscan_calls HMA.out HMA.out.st.ok.le (Int.le_refl _))
          go_wp2_with fail
          refine (slast_calls (z + 1) z kv X S wA HMA.out.st).mono ?_
          rintro e w' ⟨rfl, rfl⟩
          obtain ⟨s1, hs1⟩ : ∃ s, S.last = s := ⟨_, rfl⟩
          rw [hs1] at HKS ⊢
          have HSL := Lib.hid hs1
          clear hs1
          go_wp2_with fail
          refine HKS.out.mono ?_
          rintro e wA ⟨P1, n1, c1, rfl, hk1, hb1⟩
          have HMA2 := Lib.hid (HMA.out.below hb1)
          have HPA2 := Lib.hid (HPA.out.below hb1 HPA.out.lt)
          have HKA : Hid (q ≤ j → KeepAt wA X S s1 (.slice P1 n1 c1)) := fun _ => hk1
          clear HMA HPA HKS hk1 hb1
          have HMA := Lib.hid HMA2.out
          have HPA := Lib.hid HPA2.out
          have y0 := HPA.out.cell 0
          clear HMA2 HPA2
          by_cases hk0 : ak = 0
          · subst hk0
            go_wp2_with fail
            have y3 := HPA.out.cell 3
            have h14 : Hid (∀ W, Below wA.heap.size wA W → Calls Try.prog 14 #[.pointer (some ⟨z + 1, 0, none⟩)] W fun e w' => e = .returned (.int .i64 S.last) ∧ W = w') := fun W h => slast_calls (z + 1) z kv X S W (HMA.out.below h).st
            have h13 : Hid (∀ W, Below wA.heap.size wA W → Calls Try.prog 13 #[.pointer (some ⟨z + 1, 0, none⟩), .int .i64 (S.last + 1), .slice Pa na ca] W fun e w' => ∃ u : Int, e = .returned (.int .i64 u) ∧ Hid (∃ kv' X' S', My w w' (z + 1) z kv' X' S' ∧ (S'.last ≤ 2 * ((j : Int) + 1) ∧ S'.ents.length ≤ 120 * (j + 1)) ∧ (q ≤ j → KeepAt w' X' S' s1 (.slice P1 n1 c1)))) := fun W h => by
              have hM := HMA.out.below h
              have hsz := inst_size hM.st.ok (S.last + 1) a.l
              refine (hM.install (m := S.last + 1) (hM.arg hPw.out) HSH.out (by omega) (by omega) (by omega) (by omega)).mono fun e w' ⟨e1, kv', X', h1, h2, h3⟩ => ⟨_, e1, _, _, _, h1, ⟨by omega, by omega⟩, fun hq => ((HKA.out hq).below h).inst hM h2 h3 _ _⟩
            have hwr : IntKind.i64.wrap (S.last + 1) = S.last + 1 := IntWalk.i64_in _ (by omega)
            have hbW : Below wA.heap.size wA wA := Below.refl _ _
            go_region_law (first
              | (go_simp; go_at_call 14; refine (h14.out _ ?_).mono ?_; (focus (repeat (first | with_reducible exact hbW | apply Below.drew))); rintro e w6 ⟨rfl, rfl⟩)
              | (go_simp; go_at_call 13; refine (h13.out _ ?_).mono ?_; (focus (repeat (first | with_reducible exact hbW | apply Below.drew))); rintro e wB ⟨u6, rfl, hR⟩))
            all_goals
              have HR := hR
              clear hwr h14 h13 y3 hR HMA HPA HKA
              obtain ⟨kvB, XB, SB, hmb, hlb, hkb⟩ := HR.out
              have HMB := Lib.hid hmb
              have HLB := Lib.hid hlb
              have HKB := Lib.hid hkb
              clear HR hmb hlb hkb
              have hkb := HKB.out (by omega)
              have HKS := Lib.hid (kscan_calls HMB.out hkb.fl hkb.le)
              go_wp2_with fail
              refine HKS.out.mono ?_
              rintro e wC ⟨P2, n2, c2, rfl, hk2, hbC⟩
              have HMC := Lib.hid (HMB.out.below hbC)
              have HKC := Lib.hid (hkb.below hbC)
              have hfl := hkb.fl
              have hfl' : ¬ s1 < SB.floor := by omega
              obtain ⟨fl, hfle⟩ : ∃ fl, SB.floor = fl := ⟨_, rfl⟩
              have HFL := Lib.hid (sfloor_calls (z + 1) z kvB XB SB wC HMC.out.st)
              rw [hfle] at HFL hfl hfl'
              have HSM : Hid (n2 = n1 ∧ Calls Try.prog 17 #[.slice P2 n2 c2, .slice P1 n1 c1] wC fun e w' => e = .returned (.bool true) ∧ Below wC.heap.size wC w') := by
                have e1 := hk2.sl.length.1
                have e2 := HKC.out.sl.length.1
                have e3 : n2 = n1 := by rw [← e1, ← e2]
                subst e3
                exact ⟨rfl, same_calls _ P2 P1 n2 c2 c1 wC (hk2.sl.mono fun _ _ => trivial) (HKC.out.sl.mono fun _ _ => trivial)⟩
              clear HKS hbC hkb hk2 hfle
              go_wp2_with fail
              refine HFL.out.mono ?_
              rintro e wC' ⟨rfl, rfl⟩
              go_wp2_with fail
              refine HSM.out.2.mono ?_
              rintro e wD ⟨rfl, hbD⟩
              have R : Hid (KRnd w wD z q s1 (.slice P1 n1 c1) (j + 1)) := ⟨_, _, _, ⟨HMC.out.below hbD, HLB.out.1, HLB.out.2⟩, fun _ => HKC.out.below hbD⟩
              clear HFL HSM hbD hfl hfl'
              go_wp2
              go_roundw
              case rel => exact ⟨j + 1, s1, P1, n1, c1, by go_num, by omega, rfl, rfl, R⟩
              case measure => simp [intOf]; omega
          by_cases hk2 : ak = 2
          · subst hk2
            have y1 := HPA.out.cell 1

            have HNQ : Hid (q ≤ j → a.n ≤ s1 ∨ S.last < a.n) := fun hq => by
              have := HSL.out; omega

            have hC := Lib.hid (HMA.out.coll a.n)
            obtain ⟨hz1, hz2⟩ := coll_size S a.n
            go_wp2_with fail
            refine hC.out.mono ?_
            rintro e wB ⟨rfl, kvB, hM4, hC4⟩
            have HKB : Hid (q ≤ j → KeepAt wB X (Go.Proofs.Ytnleldogmogkgaa.coll S a.n).2 s1 (.slice P1 n1 c1)) := fun hq => (HKA.out hq).coll HMA.out hC4 (HNQ.out hq)
            have HMB := Lib.hid hM4
            obtain ⟨XB, hXB⟩ : ∃ XB, X = XB := ⟨_, rfl⟩
            obtain ⟨SB, hSB⟩ : ∃ SB, (Go.Proofs.Ytnleldogmogkgaa.coll S a.n).2 = SB := ⟨_, rfl⟩
            rw [hSB] at HKB HMB hz1 hz2
            rw [hXB] at HKB HMB
            have HLB : Hid (SB.last ≤ 2 * ((j : Int) + 1) ∧ SB.ents.length ≤ 120 * (j + 1)) := ⟨by omega, by omega⟩
            clear hC hM4 hC4 hSB hXB HMA HPA HKA y1 HNQ hz1 hz2

            have hkb := HKB.out (by omega)
            have HKS := Lib.hid (kscan_calls HMB.out hkb.fl hkb.le)
            go_wp2_with fail
            refine HKS.out.mono ?_
            rintro e wC ⟨P2, n2, c2, rfl, hk2, hbC⟩
            have HMC := Lib.hid (HMB.out.below hbC)
            have HKC := Lib.hid (hkb.below hbC)
            have hfl := hkb.fl
            have hfl' : ¬ s1 < SB.floor := by omega
            obtain ⟨fl, hfle⟩ : ∃ fl, SB.floor = fl := ⟨_, rfl⟩
            have HFL := Lib.hid (sfloor_calls (z + 1) z kvB XB SB wC HMC.out.st)
            rw [hfle] at HFL hfl hfl'
            have HSM : Hid (n2 = n1 ∧ Calls Try.prog 17 #[.slice P2 n2 c2, .slice P1 n1 c1] wC fun e w' => e = .returned (.bool true) ∧ Below wC.heap.size wC w') := by
              have e1 := hk2.sl.length.1
              have e2 := HKC.out.sl.length.1
              have e3 : n2 = n1 := by rw [← e1, ← e2]
              subst e3
              exact ⟨rfl, same_calls _ P2 P1 n2 c2 c1 wC (hk2.sl.mono fun _ _ => trivial) (HKC.out.sl.mono fun _ _ => trivial)⟩
            clear HKS hbC hkb hk2 hfle
            go_wp2_with fail
            refine HFL.out.mono ?_
            rintro e wC' ⟨rfl, rfl⟩
            go_wp2_with fail
            refine HSM.out.2.mono ?_
            rintro e wD ⟨rfl, hbD⟩
            have R : Hid (KRnd w wD z q s1 (.slice P1 n1 c1) (j + 1)) := ⟨_, _, _, ⟨HMC.out.below hbD, HLB.out.1, HLB.out.2⟩, fun _ => HKC.out.below hbD⟩
            clear HFL HSM hbD hfl hfl'
            go_wp2
            go_roundw
            case rel => exact ⟨j + 1, s1, P1, n1, c1, by go_num, by omega, rfl, rfl, R⟩
            case measure => simp [intOf]; omega
          · have hk0' : (ak == 0) = false := by simpa using hk0
            have hk2' : (ak == 2) = false := by simpa using hk2
            obtain ⟨kvB, XB, SB, wB, HMB, HLB, HKB⟩ : ∃ kvB XB SB wB, Hid (My w wB (z + 1) z kvB XB SB) ∧ Hid (SB.last ≤ 2 * ((j : Int) + 1) ∧ SB.ents.length ≤ 120 * (j + 1)) ∧ Hid (wB = wA ∧ (q ≤ j → KeepAt wB XB SB s1 (.slice P1 n1 c1))) := ⟨kv, X, S, wA, HMA.out, ⟨by omega, by omega⟩, rfl, HKA.out⟩
            obtain ⟨rfl, hkb'⟩ := HKB.out
            clear HKB
            have HKB := Lib.hid hkb'
            clear HMA HPA HKA hkb'

            have hkb := HKB.out (by omega)
            have HKS := Lib.hid (kscan_calls HMB.out hkb.fl hkb.le)
            go_wp2_with fail
            refine HKS.out.mono ?_
            rintro e wC ⟨P2, n2, c2, rfl, hk2, hbC⟩
            have HMC := Lib.hid (HMB.out.below hbC)
            have HKC := Lib.hid (hkb.below hbC)
            have hfl := hkb.fl
            have hfl' : ¬ s1 < SB.floor := by omega
            obtain ⟨fl, hfle⟩ : ∃ fl, SB.floor = fl := ⟨_, rfl⟩
            have HFL := Lib.hid (sfloor_calls (z + 1) z kvB XB SB wC HMC.out.st)
            rw [hfle] at HFL hfl hfl'
            have HSM : Hid (n2 = n1 ∧ Calls Try.prog 17 #[.slice P2 n2 c2, .slice P1 n1 c1] wC fun e w' => e = .returned (.bool true) ∧ Below wC.heap.size wC w') := by
              have e1 := hk2.sl.length.1
              have e2 := HKC.out.sl.length.1
              have e3 : n2 = n1 := by rw [← e1, ← e2]
              subst e3
              exact ⟨rfl, same_calls _ P2 P1 n2 c2 c1 wC (hk2.sl.mono fun _ _ => trivial) (HKC.out.sl.mono fun _ _ => trivial)⟩
            clear HKS hbC hkb hk2 hfle
            go_wp2_with fail
            refine HFL.out.mono ?_
            rintro e wC' ⟨rfl, rfl⟩
            go_wp2_with fail
            refine HSM.out.2.mono ?_
            rintro e wD ⟨rfl, hbD⟩
            have R : Hid (KRnd w wD z q s1 (.slice P1 n1 c1) (j + 1)) := ⟨_, _, _, ⟨HMC.out.below hbD, HLB.out.1, HLB.out.2⟩, fun _ => HKC.out.below hbD⟩
            clear HFL HSM hbD hfl hfl'
            go_wp2
            go_roundw
            case rel => exact ⟨j + 1, s1, P1, n1, c1, by go_num, by omega, rfl, rfl, R⟩
            case measure => simp [intOf]; omega
        · have hjq1 : ((j : Int) == (q : Int)) = false := by simp; omega
          have hKA : Hid (q ≤ j → KeepAt wA X S s1 (.slice P1 n1 c1)) := fun h => HKA.out hjq
          clear HKA
          have HKA := Lib.hid hKA.out
          clear hKA
          by_cases hk0 : ak = 0
          · subst hk0
            go_wp2_with fail
            have y3 := HPA.out.cell 3
            have h14 : Hid (∀ W, Below wA.heap.size wA W → Calls Try.prog 14 #[.pointer (some ⟨z + 1, 0, none⟩)] W fun e w' => e = .returned (.int .i64 S.last) ∧ W = w') := fun W h => slast_calls (z + 1) z kv X S W (HMA.out.below h).st
            have h13 : Hid (∀ W, Below wA.heap.size wA W → Calls Try.prog 13 #[.pointer (some ⟨z + 1, 0, none⟩), .int .i64 (S.last + 1), .slice Pa na ca] W fun e w' => ∃ u : Int, e = .returned (.int .i64 u) ∧ Hid (∃ kv' X' S', My w w' (z + 1) z kv' X' S' ∧ (S'.last ≤ 2 * ((j : Int) + 1) ∧ S'.ents.length ≤ 120 * (j + 1)) ∧ (q ≤ j → KeepAt w' X' S' s1 (.slice P1 n1 c1)))) := fun W h => by
              have hM := HMA.out.below h
              have hsz := inst_size hM.st.ok (S.last + 1) a.l
              refine (hM.install (m := S.last + 1) (hM.arg hPw.out) HSH.out (by omega) (by omega) (by omega) (by omega)).mono fun e w' ⟨e1, kv', X', h1, h2, h3⟩ => ⟨_, e1, _, _, _, h1, ⟨by omega, by omega⟩, fun hq => ((HKA.out hq).below h).inst hM h2 h3 _ _⟩
            have hwr : IntKind.i64.wrap (S.last + 1) = S.last + 1 := IntWalk.i64_in _ (by omega)
            have hbW : Below wA.heap.size wA wA := Below.refl _ _
            go_region_law (first
              | (go_simp; go_at_call 14; refine (h14.out _ ?_).mono ?_; (focus (repeat (first | with_reducible exact hbW | apply Below.drew))); rintro e w6 ⟨rfl, rfl⟩)
              | (go_simp; go_at_call 13; refine (h13.out _ ?_).mono ?_; (focus (repeat (first | with_reducible exact hbW | apply Below.drew))); rintro e wB ⟨u6, rfl, hR⟩))
            all_goals
              have HR := hR
              clear hwr h14 h13 y3 hR HMA HPA HKA
              obtain ⟨kvB, XB, SB, hmb, hlb, hkb⟩ := HR.out
              have HMB := Lib.hid hmb
              have HLB := Lib.hid hlb
              have HKB := Lib.hid hkb
              clear HR hmb hlb hkb
              have hkb := HKB.out (by omega)
              have HKS := Lib.hid (kscan_calls HMB.out hkb.fl hkb.le)
              go_wp2_with fail
              refine HKS.out.mono ?_
              rintro e wC ⟨P2, n2, c2, rfl, hk2, hbC⟩
              have HMC := Lib.hid (HMB.out.below hbC)
              have HKC := Lib.hid (hkb.below hbC)
              have hfl := hkb.fl
              have hfl' : ¬ s1 < SB.floor := by omega
              obtain ⟨fl, hfle⟩ : ∃ fl, SB.floor = fl := ⟨_, rfl⟩
              have HFL := Lib.hid (sfloor_calls (z + 1) z kvB XB SB wC HMC.out.st)
              rw [hfle] at HFL hfl hfl'
              have HSM : Hid (n2 = n1 ∧ Calls Try.prog 17 #[.slice P2 n2 c2, .slice P1 n1 c1] wC fun e w' => e = .returned (.bool true) ∧ Below wC.heap.size wC w') := by
                have e1 := hk2.sl.length.1
                have e2 := HKC.out.sl.length.1
                have e3 : n2 = n1 := by rw [← e1, ← e2]
                subst e3
                exact ⟨rfl, same_calls _ P2 P1 n2 c2 c1 wC (hk2.sl.mono fun _ _ => trivial) (HKC.out.sl.mono fun _ _ => trivial)⟩
              clear HKS hbC hkb hk2 hfle
              go_wp2_with fail
              refine HFL.out.mono ?_
              rintro e wC' ⟨rfl, rfl⟩
              go_wp2_with fail
              refine HSM.out.2.mono ?_
              rintro e wD ⟨rfl, hbD⟩
              have R : Hid (KRnd w wD z q s1 (.slice P1 n1 c1) (j + 1)) := ⟨_, _, _, ⟨HMC.out.below hbD, HLB.out.1, HLB.out.2⟩, fun _ => HKC.out.below hbD⟩
              clear HFL HSM hbD hfl hfl'
              go_wp2
              go_roundw
              case rel => exact ⟨j + 1, s1, P1, n1, c1, by go_num, by omega, rfl, rfl, R⟩
              case measure => simp [intOf]; omega
          by_cases hk2 : ak = 2
          · subst hk2
            have y1 := HPA.out.cell 1

            by_cases hcon : s1 < a.n ∨ a.n < 0
            · have R : Hid (KRnd w wA z q s1 (.slice P1 n1 c1) (j + 1)) := ⟨_, _, _, ⟨HMA.out, by omega, by omega⟩, fun h => HKA.out (by omega)⟩
              clear HKA HPA HMA
              rcases hcon with hcon | hcon
              · go_wp2_with fail
                go_roundw
                case rel => exact ⟨j + 1, s1, P1, n1, c1, by go_num, by omega, rfl, rfl, R⟩
                case measure => simp [intOf]; omega
              · by_cases hc2 : s1 < a.n
                · go_wp2_with fail
                  go_roundw
                  case rel => exact ⟨j + 1, s1, P1, n1, c1, by go_num, by omega, rfl, rfl, R⟩
                  case measure => simp [intOf]; omega
                · go_wp2_with fail
                  go_roundw
                  case rel => exact ⟨j + 1, s1, P1, n1, c1, by go_num, by omega, rfl, rfl, R⟩
                  case measure => simp [intOf]; omega
            · have hc1 : ¬ s1 < a.n := by omega
              have hc2 : ¬ a.n < 0 := by omega
              have HNQ : Hid (q ≤ j → a.n ≤ s1 ∨ S.last < a.n) := fun _ => .inl (by omega)
              clear hcon
              have hC := Lib.hid (HMA.out.coll a.n)
              obtain ⟨hz1, hz2⟩ := coll_size S a.n
              go_wp2_with fail
              refine hC.out.mono ?_
              rintro e wB ⟨rfl, kvB, hM4, hC4⟩
              have HKB : Hid (q ≤ j → KeepAt wB X (Go.Proofs.Ytnleldogmogkgaa.coll S a.n).2 s1 (.slice P1 n1 c1)) := fun hq => (HKA.out hq).coll HMA.out hC4 (HNQ.out hq)
              have HMB := Lib.hid hM4
              obtain ⟨XB, hXB⟩ : ∃ XB, X = XB := ⟨_, rfl⟩
              obtain ⟨SB, hSB⟩ : ∃ SB, (Go.Proofs.Ytnleldogmogkgaa.coll S a.n).2 = SB := ⟨_, rfl⟩
              rw [hSB] at HKB HMB hz1 hz2
              rw [hXB] at HKB HMB
              have HLB : Hid (SB.last ≤ 2 * ((j : Int) + 1) ∧ SB.ents.length ≤ 120 * (j + 1)) := ⟨by omega, by omega⟩
              clear hC hM4 hC4 hSB hXB HMA HPA HKA y1 HNQ hz1 hz2

              have hkb := HKB.out (by omega)
              have HKS := Lib.hid (kscan_calls HMB.out hkb.fl hkb.le)
              go_wp2_with fail
              refine HKS.out.mono ?_
              rintro e wC ⟨P2, n2, c2, rfl, hk2, hbC⟩
              have HMC := Lib.hid (HMB.out.below hbC)
              have HKC := Lib.hid (hkb.below hbC)
              have hfl := hkb.fl
              have hfl' : ¬ s1 < SB.floor := by omega
              obtain ⟨fl, hfle⟩ : ∃ fl, SB.floor = fl := ⟨_, rfl⟩
              have HFL := Lib.hid (sfloor_calls (z + 1) z kvB XB SB wC HMC.out.st)
              rw [hfle] at HFL hfl hfl'
              have HSM : Hid (n2 = n1 ∧ Calls Try.prog 17 #[.slice P2 n2 c2, .slice P1 n1 c1] wC fun e w' => e = .returned (.bool true) ∧ Below wC.heap.size wC w') := by
                have e1 := hk2.sl.length.1
                have e2 := HKC.out.sl.length.1
                have e3 : n2 = n1 := by rw [← e1, ← e2]
                subst e3
                exact ⟨rfl, same_calls _ P2 P1 n2 c2 c1 wC (hk2.sl.mono fun _ _ => trivial) (HKC.out.sl.mono fun _ _ => trivial)⟩
              clear HKS hbC hkb hk2 hfle
              go_wp2_with fail
              refine HFL.out.mono ?_
              rintro e wC' ⟨rfl, rfl⟩
              go_wp2_with fail
              refine HSM.out.2.mono ?_
              rintro e wD ⟨rfl, hbD⟩
              have R : Hid (KRnd w wD z q s1 (.slice P1 n1 c1) (j + 1)) := ⟨_, _, _, ⟨HMC.out.below hbD, HLB.out.1, HLB.out.2⟩, fun _ => HKC.out.below hbD⟩
              clear HFL HSM hbD hfl hfl'
              go_wp2
              go_roundw
              case rel => exact ⟨j + 1, s1, P1, n1, c1, by go_num, by omega, rfl, rfl, R⟩
              case measure => simp [intOf]; omega
          · have hk0' : (ak == 0) = false := by simpa using hk0
            have hk2' : (ak == 2) = false := by simpa using hk2
            obtain ⟨kvB, XB, SB, wB, HMB, HLB, HKB⟩ : ∃ kvB XB SB wB, Hid (My w wB (z + 1) z kvB XB SB) ∧ Hid (SB.last ≤ 2 * ((j : Int) + 1) ∧ SB.ents.length ≤ 120 * (j + 1)) ∧ Hid (wB = wA ∧ (q ≤ j → KeepAt wB XB SB s1 (.slice P1 n1 c1))) := ⟨kv, X, S, wA, HMA.out, ⟨by omega, by omega⟩, rfl, HKA.out⟩
            obtain ⟨rfl, hkb'⟩ := HKB.out
            clear HKB
            have HKB := Lib.hid hkb'
            clear HMA HPA HKA hkb'

            have hkb := HKB.out (by omega)
            have HKS := Lib.hid (kscan_calls HMB.out hkb.fl hkb.le)
            go_wp2_with fail
            refine HKS.out.mono ?_
            rintro e wC ⟨P2, n2, c2, rfl, hk2, hbC⟩
            have HMC := Lib.hid (HMB.out.below hbC)
            have HKC := Lib.hid (hkb.below hbC)
            have hfl := hkb.fl
            have hfl' : ¬ s1 < SB.floor := by omega
            obtain ⟨fl, hfle⟩ : ∃ fl, SB.floor = fl := ⟨_, rfl⟩
            have HFL := Lib.hid (sfloor_calls (z + 1) z kvB XB SB wC HMC.out.st)
            rw [hfle] at HFL hfl hfl'
            have HSM : Hid (n2 = n1 ∧ Calls Try.prog 17 #[.slice P2 n2 c2, .slice P1 n1 c1] wC fun e w' => e = .returned (.bool true) ∧ Below wC.heap.size wC w') := by
              have e1 := hk2.sl.length.1
              have e2 := HKC.out.sl.length.1
              have e3 : n2 = n1 := by rw [← e1, ← e2]
              subst e3
              exact ⟨rfl, same_calls _ P2 P1 n2 c2 c1 wC (hk2.sl.mono fun _ _ => trivial) (HKC.out.sl.mono fun _ _ => trivial)⟩
            clear HKS hbC hkb hk2 hfle
            go_wp2_with fail
            refine HFL.out.mono ?_
            rintro e wC' ⟨rfl, rfl⟩
            go_wp2_with fail
            refine HSM.out.2.mono ?_
            rintro e wD ⟨rfl, hbD⟩
            have R : Hid (KRnd w wD z q s1 (.slice P1 n1 c1) (j + 1)) := ⟨_, _, _, ⟨HMC.out.below hbD, HLB.out.1, HLB.out.2⟩, fun _ => HKC.out.below hbD⟩
            clear HFL HSM hbD hfl hfl'
            go_wp2
            go_roundw
            case rel => exact ⟨j + 1, s1, P1, n1, c1, by go_num, by omega, rfl, rfl, R⟩
            case measure => simp [intOf]; omega
      · have HBE : Hid (Below w.heap.size w wr) := hMy.be
        clear hMy hkp
        go_wp2_with fail
        refine (hlive.out _ HBE.out).mono ?_
        rintro e w3 ⟨rfl, hb3⟩
        go_wp2
        go_ret
        exact ⟨rfl, hb3⟩
end Go.Proofs.Ytnleldogmogkgaa
