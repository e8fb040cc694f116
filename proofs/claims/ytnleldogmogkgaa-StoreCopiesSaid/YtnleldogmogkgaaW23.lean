import Derived.Test.YtnleldogmogkgaaW22
import Derived.Deep.RegionLaw
/-! StorePlaces. -/
namespace Go.Proofs.Ytnleldogmogkgaa
open Go.RowKit Go.Op

theorem inst_cases (S : Sto) (n : Int) (l : List Pair) : (goodL l = true ∧ n = S.last + 1 ∧ inst S n l = (0, ⟨addAll n S.ents l, n, S.floor⟩)) ∨ (goodL l = true ∧ n ≠ S.last + 1 ∧ inst S n l = (2, S)) ∨ (goodL l = false ∧ inst S n l = (2, S)) := by
  cases hg : goodL l
  · exact .inr (.inr ⟨rfl, by rw [inst, if_neg (by simp [hg])]⟩)
  · by_cases hn : n = S.last + 1
    · exact .inl ⟨rfl, hn, by rw [inst, if_pos ⟨hg, hn⟩]⟩
    · exact .inr (.inl ⟨rfl, hn, by rw [inst, if_neg (by simp [hn])]⟩)
theorem inst_size {S : Sto} (h : S.Ok) (n : Int) (l : List Pair) : (inst S n l).2.ents.length ≤ S.ents.length + l.length ∧ (inst S n l).2.last ≤ S.last + 1 ∧ S.last ≤ (inst S n l).2.last := by
  unfold inst
  split
  · rename_i hc
    refine ⟨addAll_length h.rising n, ?_, ?_⟩
    · show n ≤ S.last + 1; omega
    · show S.last ≤ n; omega
  · exact ⟨by show S.ents.length ≤ _; omega, by show S.last ≤ S.last + 1; omega, Int.le_refl _⟩
theorem coll_size (S : Sto) (n : Int) : (coll S n).2.ents.length ≤ S.ents.length ∧ (coll S n).2.last = S.last := by
  unfold coll
  split
  · exact ⟨Nat.le_refl _, rfl⟩
  · exact ⟨trims_length _ _, rfl⟩
theorem getS_cases (S : Sto) (k : ByteArray) (n : Int) : (n < S.floor ∧ (getS S k n).2 = 11) ∨ (¬ n < S.floor ∧ S.last < n ∧ (getS S k n).2 = 2) ∨ (¬ n < S.floor ∧ ¬ S.last < n ∧ ((getS S k n).2 = 0 ∨ (getS S k n).2 = 8)) := by
  unfold getS may
  by_cases h1 : n < S.floor
  · exact .inl ⟨h1, by simp [h1]⟩
  · by_cases h2 : S.last < n
    · exact .inr (.inl ⟨h1, h2, by simp [h1, h2]⟩)
    · refine .inr (.inr ⟨h1, h2, ?_⟩)
      simp only [h1, h2, if_false]
      cases get (chainOf S.ents k) n
      · right; rfl
      · left; rfl

/-- A round's store, of at most so much. -/
structure Rnd (w W : World) (z : Nat) (kv : Value) (X : List Nat) (S : Sto) (j : Nat) : Prop where
  my : My w W (z + 1) z kv X S
  la : S.last ≤ 2 * (j : Int)
  en : S.ents.length ≤ 120 * j

set_option maxHeartbeats 8000000 in
set_option maxRecDepth 100000 in
theorem places_calls (acts : List SAct) (A : Option Addr) (n c : Nat) (m : Int) (key : ByteArray) (w : World) (hl : Sl tAct w (fun _ => True) (.slice A n c) acts) (ho : ∀ a ∈ acts, ActOk a) (hk : key.size ≤ 140737488351232) :
    Calls Try.prog 5 #[.slice A n c, .int .i64 m, .string key] w fun e w' => e = .returned (.bool true) ∧ Below w.heap.size w w' := by
  have hln := hl.length
  have HL := Lib.hid hl
  have HO := Lib.hid ho
  obtain ⟨hln, hcap, hcm⟩ := hln
  have HLN := Lib.hid hln
  clear hl ho hln
  go_enter Try.func5, Try.ntmps5
  go_wp2_with fail
  refine (my_new w w (Below.refl _ _)).mono ?_
  rintro e w1 ⟨rfl, hM1⟩
  obtain ⟨z, hz⟩ : ∃ z, w.heap.size = z := ⟨_, rfl⟩
  rw [hz] at hM1 ⊢
  have HM1 := Lib.hid hM1
  have HLI := Lib.hid (light_calls acts A n c w1 ((hM1.arg HL.out).mono fun _ _ => trivial) HO.out)
  clear hM1
  go_wp2_with fail
  refine HLI.out.mono ?_
  rintro e w2 ⟨b, rfl, hb, hb2⟩
  have HM2 := Lib.hid (HM1.out.below hb2)
  have HB2 := Lib.hid HM2.out.be
  clear HLI HM1 hb2
  have hlive : Hid (∀ W, Below w.heap.size w W → Calls Try.prog 12 #[] W fun e w' => e = .returned (.bool true) ∧ Below w.heap.size w w') := fun W h => (lives_calls W).mono fun e w' ⟨e1, h1⟩ => ⟨e1, h.trans (h1.mono h.size)⟩
  by_cases hgo : b = true ∧ (key.size : Int) ≤ 200
  case neg =>
    have hno : b = false ∨ (b = true ∧ 200 < (key.size : Int)) := by
      cases b
      · exact .inl rfl
      · exact .inr ⟨rfl, by simp at hgo; omega⟩
    clear hgo hb
    rcases hno with rfl | ⟨rfl, hno⟩
    · go_wp2_with fail
      refine (hlive.out _ HB2.out).mono ?_
      rintro e w3 ⟨rfl, hb3⟩
      go_wp2
      go_ret
      exact ⟨rfl, hb3⟩
    · go_wp2_with fail
      refine (hlive.out _ HB2.out).mono ?_
      rintro e w3 ⟨rfl, hb3⟩
      go_wp2
      go_ret
      exact ⟨rfl, hb3⟩
  case pos =>
    obtain ⟨rfl, hk200⟩ := hgo
    obtain ⟨hn60, hfew⟩ := hb rfl
    have HFEW := Lib.hid hfew
    have HA0 : Hid (∃ kv X S, Rnd w w2 z kv X S 0) := ⟨_, _, _, HM2.out, by simp [Sto.new], by simp [Sto.new]⟩
    clear hb hfew HM2 HB2
    go_wp2
    go_loopw [28] (fun i wr => ∃ j : Nat, i = .int .i64 j ∧ j ≤ n ∧ Hid (∃ kv X S, Rnd w wr z kv X S j)) (fun i _ => n - (intOf i).toNat)
    case atStart => exact ⟨0, rfl, by omega, HA0⟩
    case round =>
      obtain ⟨j, rfl, hj, hAt⟩ := hrel
      clear HA0
      obtain ⟨kv, X, S, hAt⟩ := hAt.out
      obtain ⟨hMy, hla, hen⟩ := hAt
      have hla0 : 0 ≤ S.last := by have := hMy.st.ok.fl; have := hMy.st.ok.le; omega
      by_cases hlt : j < n
      · obtain ⟨a, ha⟩ := some_at (show j < acts.length by rw [HLN.out]; exact hlt)
        obtain ⟨b, off, P, np, cp, rfl, hbl, x0, x1, x2, x3, x4, x5, hP⟩ := sl_act ((hMy.arg HL.out).mono (ok' := fun _ => True) fun _ _ => trivial) ha
        have hPw : Hid (Sl tPair w (fun _ => True) (.slice P np cp) a.l) := by
          obtain ⟨b', off', P', np', cp', e', -, -, -, -, y3, -, -, hP'⟩ := sl_act HL.out ha
          injection e' with e'
          injection e' with e1 e2
          subst e1 e2
          have hlt' : b < w.heap.size := World.block_lt_of_cell? w _ y3
          have := (hMy.be.cell (p := ⟨b, off + j * 6 + 3, none⟩) hlt').trans y3
          rw [this] at x3
          injection x3 with x3
          injection x3 with q1 q2 q3
          subst q1 q2 q3
          exact hP'
        obtain ⟨-, -, ha3, ha4, ha5⟩ := HO.out a (List.mem_of_getElem? ha)
        obtain ⟨hf1, -, -⟩ := HFEW.out a (List.mem_of_getElem? ha)
        have HSH := Lib.hid ha3
        obtain ⟨ga, hga⟩ : ∃ ga, wr.heap.size = ga := ⟨_, rfl⟩
        have hba := (Below.refl wr.heap.size wr).alloc (Nat.le_refl _) (.cells #[.int .i64 a.kind, .int .i64 a.n, .int .i64 a.most, .slice P np cp, .string a.fr, .string a.to] 25)
        have hPa : Blk (wr.alloc (.cells #[.int .i64 a.kind, .int .i64 a.n, .int .i64 a.most, .slice P np cp, .string a.fr, .string a.to] 25)) ga #[.int .i64 a.kind, .int .i64 a.n, .int .i64 a.most, .slice P np cp, .string a.fr, .string a.to] 25 := by rw [← hga]; exact Blk.new _ _ _
        have hMa := hMy.below hba
        have hgX : Hid (ga ∉ X) := fun hm => by have := hMy.st.lt _ hm; omega
        obtain ⟨Wa, hWa⟩ : ∃ Wa, wr.alloc (.cells #[.int .i64 a.kind, .int .i64 a.n, .int .i64 a.most, .slice P np cp, .string a.fr, .string a.to] 25) = Wa := ⟨_, rfl⟩
        rw [hWa] at hPa hMa
        have HPa := Lib.hid hPa
        have HMa := Lib.hid hMa
        have y0 := hPa.cell 0
        have y1 := hPa.cell 1
        have y3 := hPa.cell 3
        clear hba hP ha ha3 hMy hPa hMa
        go_wp2_with fail
        clear hWa x0 x1 x2 x3 x4 x5
        refine (slast_calls (z + 1) z kv X S Wa HMa.out.st).mono ?_
        rintro e w3 ⟨rfl, rfl⟩
        go_wp2_with fail
        refine (sfloor_calls (z + 1) z kv X S Wa HMa.out.st).mono ?_
        rintro e w3 ⟨rfl, rfl⟩
        by_cases hk01 : a.kind = 0 ∨ a.kind = 1
        · have hI := Lib.hid (HMa.out.install (m := a.n) (HMa.out.arg hPw.out) HSH.out ha4 ha5 (by omega) (by omega))
          obtain ⟨hs1, hs2, hs3⟩ := inst_size HMa.out.st.ok a.n a.l
          rcases hk01 with hk0 | hk0
          · go_wp2_with fail
            refine hI.out.mono ?_
            rintro e w4 ⟨rfl, kv4, X4, hM4, hC4, hX4⟩
            have hP4 := HMa.out.keep hC4 HPa.out hgX.out
            have hg4 : Hid (ga ∉ X4) := hX4.out hgX.out HPa.out.lt
            have HP4 := Lib.hid hP4
            have HM4 := Lib.hid hM4
            have y1 := hP4.cell 1
            have y3 := hP4.cell 3
            have y0 := hP4.cell 0
            clear hI hM4 hC4 hX4 hP4 HMa HPa hgX
            obtain ⟨S4, hS4⟩ : ∃ S4, inst S a.n a.l = S4 := ⟨_, rfl⟩
            obtain ⟨c4, S4⟩ := S4
            rw [hS4] at HM4 hs1 hs2 hs3
            have HGL := Lib.hid (goodl_calls a.l P np cp w4 ((HM4.out.arg hPw.out).mono fun _ _ => trivial) HSH.out)
            have hcase := inst_cases S a.n a.l
            rw [hS4] at hcase ⊢
            have hf4 : 0 ≤ S4.floor := HM4.out.st.ok.fl
            have hfl4 : S4.floor ≤ S4.last := HM4.out.st.ok.le
            have hla4 : 0 ≤ S4.last := by omega
            have hs1' : S4.ents.length ≤ S.ents.length + a.l.length := hs1
            have hs2' : S4.last ≤ S.last + 1 := hs2
            obtain ⟨q, hq⟩ : ∃ q, goodL a.l = q := ⟨_, rfl⟩
            rw [hq] at HGL hcase
            clear hq hs1 hs2 hs3 hS4 hf4 hfl4
            go_wp2_with fail
            refine HGL.out.mono ?_
            rintro e w5 ⟨rfl, hb5⟩
            have HM5 : Hid (My w w5 (z + 1) z kv4 X4 S4) := HM4.out.below hb5
            have HP5 := Lib.hid (HP4.out.below hb5 HP4.out.lt)
            have y0 := HP5.out.cell 0
            have y1 := HP5.out.cell 1
            have y3 := HP5.out.cell 3
            clear HGL HM4 HP4 hb5
            rcases hcase with ⟨rfl, hn, hS⟩ | ⟨rfl, hn, hS⟩ | ⟨rfl, hS⟩
            · injection hS with e1 e2
              have hl4 : S4.last = S.last + 1 := by rw [e2]; exact hn
              subst e1
              clear e2
              go_wp2_with fail
              refine (slast_calls (z + 1) z kv4 X4 S4 w5 HM5.out.st).mono ?_
              rintro e w6 ⟨rfl, rfl⟩
              rw [hl4]
              clear hl4
              go_wp2_with fail
              clear hn
              have h14 : Hid (∀ W, Below w5.heap.size w5 W → Calls Try.prog 14 #[.pointer (some ⟨z + 1, 0, none⟩)] W fun e w' => e = .returned (.int .i64 S4.last) ∧ W = w') := fun W h => slast_calls (z + 1) z kv4 X4 S4 W (HM5.out.below h).st
              have h13 : Hid (∀ W, Below w5.heap.size w5 W → Calls Try.prog 13 #[.pointer (some ⟨z + 1, 0, none⟩), .int .i64 (S4.last + 1), .slice P np cp] W fun e w' => ∃ q : Int, e = .returned (.int .i64 q) ∧ Hid (∃ kv X S, Rnd w w' z kv X S (j + 1))) := fun W h => by
                have hM := HM5.out.below h
                have hsz := inst_size hM.st.ok (S4.last + 1) a.l
                refine (hM.install (m := S4.last + 1) (hM.arg hPw.out) HSH.out (by omega) (by omega) (by omega) (by omega)).mono fun e w' ⟨e1, kv', X', h1, _, _⟩ => ⟨_, e1, _, _, _, h1, by omega, by omega⟩
              have hwr : IntKind.i64.wrap (S4.last + 1) = S4.last + 1 := IntWalk.i64_in _ (by omega)
              have hbW : Below w5.heap.size w5 w5 := Below.refl _ _
              go_region_law (first
                | (go_simp; go_at_call 14; refine (h14.out _ ?_).mono ?_; (focus (repeat (first | with_reducible exact hbW | apply Below.drew))); rintro e w6 ⟨rfl, rfl⟩)
                | (go_simp; go_at_call 13; refine (h13.out _ ?_).mono ?_; (focus (repeat (first | with_reducible exact hbW | apply Below.drew))); rintro e w6 ⟨q6, rfl, hR⟩))
              all_goals
                have R := hR
                clear hwr h14 h13 y0 y1 y3
                go_wp2
                go_roundw
                case rel => exact ⟨j + 1, by go_num, by omega, R⟩
                case measure => simp [intOf]; omega
            · injection hS with e1 e2
              subst e1
              clear e2
              have hn' : (a.n == S.last + 1) = false := by simpa using hn
              go_wp2_with fail
              clear hn hn'
              have h14 : Hid (∀ W, Below w5.heap.size w5 W → Calls Try.prog 14 #[.pointer (some ⟨z + 1, 0, none⟩)] W fun e w' => e = .returned (.int .i64 S4.last) ∧ W = w') := fun W h => slast_calls (z + 1) z kv4 X4 S4 W (HM5.out.below h).st
              have h13 : Hid (∀ W, Below w5.heap.size w5 W → Calls Try.prog 13 #[.pointer (some ⟨z + 1, 0, none⟩), .int .i64 (S4.last + 1), .slice P np cp] W fun e w' => ∃ q : Int, e = .returned (.int .i64 q) ∧ Hid (∃ kv X S, Rnd w w' z kv X S (j + 1))) := fun W h => by
                have hM := HM5.out.below h
                have hsz := inst_size hM.st.ok (S4.last + 1) a.l
                refine (hM.install (m := S4.last + 1) (hM.arg hPw.out) HSH.out (by omega) (by omega) (by omega) (by omega)).mono fun e w' ⟨e1, kv', X', h1, _, _⟩ => ⟨_, e1, _, _, _, h1, by omega, by omega⟩
              have hwr : IntKind.i64.wrap (S4.last + 1) = S4.last + 1 := IntWalk.i64_in _ (by omega)
              have hbW : Below w5.heap.size w5 w5 := Below.refl _ _
              go_region_law (first
                | (go_simp; go_at_call 14; refine (h14.out _ ?_).mono ?_; (focus (repeat (first | with_reducible exact hbW | apply Below.drew))); rintro e w6 ⟨rfl, rfl⟩)
                | (go_simp; go_at_call 13; refine (h13.out _ ?_).mono ?_; (focus (repeat (first | with_reducible exact hbW | apply Below.drew))); rintro e w6 ⟨q6, rfl, hR⟩))
              all_goals
                have R := hR
                clear hwr h14 h13 y0 y1 y3
                go_wp2
                go_roundw
                case rel => exact ⟨j + 1, by go_num, by omega, R⟩
                case measure => simp [intOf]; omega
            · injection hS with e1 e2
              subst e1
              clear e2
              go_wp2_with fail
              have h14 : Hid (∀ W, Below w5.heap.size w5 W → Calls Try.prog 14 #[.pointer (some ⟨z + 1, 0, none⟩)] W fun e w' => e = .returned (.int .i64 S4.last) ∧ W = w') := fun W h => slast_calls (z + 1) z kv4 X4 S4 W (HM5.out.below h).st
              have h13 : Hid (∀ W, Below w5.heap.size w5 W → Calls Try.prog 13 #[.pointer (some ⟨z + 1, 0, none⟩), .int .i64 (S4.last + 1), .slice P np cp] W fun e w' => ∃ q : Int, e = .returned (.int .i64 q) ∧ Hid (∃ kv X S, Rnd w w' z kv X S (j + 1))) := fun W h => by
                have hM := HM5.out.below h
                have hsz := inst_size hM.st.ok (S4.last + 1) a.l
                refine (hM.install (m := S4.last + 1) (hM.arg hPw.out) HSH.out (by omega) (by omega) (by omega) (by omega)).mono fun e w' ⟨e1, kv', X', h1, _, _⟩ => ⟨_, e1, _, _, _, h1, by omega, by omega⟩
              have hwr : IntKind.i64.wrap (S4.last + 1) = S4.last + 1 := IntWalk.i64_in _ (by omega)
              have hbW : Below w5.heap.size w5 w5 := Below.refl _ _
              go_region_law (first
                | (go_simp; go_at_call 14; refine (h14.out _ ?_).mono ?_; (focus (repeat (first | with_reducible exact hbW | apply Below.drew))); rintro e w6 ⟨rfl, rfl⟩)
                | (go_simp; go_at_call 13; refine (h13.out _ ?_).mono ?_; (focus (repeat (first | with_reducible exact hbW | apply Below.drew))); rintro e w6 ⟨q6, rfl, hR⟩))
              all_goals
                have R := hR
                clear hwr h14 h13 y0 y1 y3
                go_wp2
                go_roundw
                case rel => exact ⟨j + 1, by go_num, by omega, R⟩
                case measure => simp [intOf]; omega
          · go_wp2_with fail
            refine hI.out.mono ?_
            rintro e w4 ⟨rfl, kv4, X4, hM4, hC4, hX4⟩
            have hP4 := HMa.out.keep hC4 HPa.out hgX.out
            have hg4 : Hid (ga ∉ X4) := hX4.out hgX.out HPa.out.lt
            have HP4 := Lib.hid hP4
            have HM4 := Lib.hid hM4
            have y1 := hP4.cell 1
            have y3 := hP4.cell 3
            have y0 := hP4.cell 0
            clear hI hM4 hC4 hX4 hP4 HMa HPa hgX
            obtain ⟨S4, hS4⟩ : ∃ S4, inst S a.n a.l = S4 := ⟨_, rfl⟩
            obtain ⟨c4, S4⟩ := S4
            rw [hS4] at HM4 hs1 hs2 hs3
            have HGL := Lib.hid (goodl_calls a.l P np cp w4 ((HM4.out.arg hPw.out).mono fun _ _ => trivial) HSH.out)
            have hcase := inst_cases S a.n a.l
            rw [hS4] at hcase ⊢
            have hf4 : 0 ≤ S4.floor := HM4.out.st.ok.fl
            have hfl4 : S4.floor ≤ S4.last := HM4.out.st.ok.le
            have hla4 : 0 ≤ S4.last := by omega
            have hs1' : S4.ents.length ≤ S.ents.length + a.l.length := hs1
            have hs2' : S4.last ≤ S.last + 1 := hs2
            obtain ⟨q, hq⟩ : ∃ q, goodL a.l = q := ⟨_, rfl⟩
            rw [hq] at HGL hcase
            clear hq hs1 hs2 hs3 hS4 hf4 hfl4
            go_wp2_with fail
            refine HGL.out.mono ?_
            rintro e w5 ⟨rfl, hb5⟩
            have HM5 : Hid (My w w5 (z + 1) z kv4 X4 S4) := HM4.out.below hb5
            have HP5 := Lib.hid (HP4.out.below hb5 HP4.out.lt)
            have y0 := HP5.out.cell 0
            have y1 := HP5.out.cell 1
            have y3 := HP5.out.cell 3
            clear HGL HM4 HP4 hb5
            rcases hcase with ⟨rfl, hn, hS⟩ | ⟨rfl, hn, hS⟩ | ⟨rfl, hS⟩
            · injection hS with e1 e2
              have hl4 : S4.last = S.last + 1 := by rw [e2]; exact hn
              subst e1
              clear e2
              go_wp2_with fail
              refine (slast_calls (z + 1) z kv4 X4 S4 w5 HM5.out.st).mono ?_
              rintro e w6 ⟨rfl, rfl⟩
              rw [hl4]
              clear hl4
              go_wp2_with fail
              clear hn
              have R : Hid (∃ kv X S, Rnd w w5 z kv X S (j + 1)) := ⟨_, _, _, HM5.out, by omega, by omega⟩
              go_roundw
              case rel => exact ⟨j + 1, by go_num, by omega, R⟩
              case measure => simp [intOf]; omega
            · injection hS with e1 e2
              subst e1
              clear e2
              have hn' : (a.n == S.last + 1) = false := by simpa using hn
              go_wp2_with fail
              clear hn hn'
              have R : Hid (∃ kv X S, Rnd w w5 z kv X S (j + 1)) := ⟨_, _, _, HM5.out, by omega, by omega⟩
              go_roundw
              case rel => exact ⟨j + 1, by go_num, by omega, R⟩
              case measure => simp [intOf]; omega
            · injection hS with e1 e2
              subst e1
              clear e2
              go_wp2_with fail
              have R : Hid (∃ kv X S, Rnd w w5 z kv X S (j + 1)) := ⟨_, _, _, HM5.out, by omega, by omega⟩
              go_roundw
              case rel => exact ⟨j + 1, by go_num, by omega, R⟩
              case measure => simp [intOf]; omega
        · have hk0 : (a.kind == 0) = false := by simpa using fun h => hk01 (.inl h)
          have hk1 : (a.kind == 1) = false := by simpa using fun h => hk01 (.inr h)
          by_cases hk2 : a.kind = 2
          · have hC := Lib.hid (HMa.out.coll a.n)
            obtain ⟨hz1, hz2⟩ := coll_size S a.n
            go_wp2_with fail
            refine hC.out.mono ?_
            rintro e w4 ⟨rfl, kv4, hM4, hC4⟩
            have hP4 := HMa.out.keep hC4 HPa.out hgX.out
            have y1 := hP4.cell 1
            have HM4 := Lib.hid hM4
            have R : Hid (∃ kv X S, Rnd w w4 z kv X S (j + 1)) := ⟨_, _, _, hM4, by omega, by omega⟩
            clear hC hM4 hC4 hP4 HMa HPa hgX
            unfold coll
            by_cases h1 : a.n < S.floor
            · rw [if_pos (.inl h1)]
              go_wp2
              go_roundw
              case rel => exact ⟨j + 1, by go_num, by omega, R⟩
              case measure => simp [intOf]; omega
            · by_cases h2 : S.last < a.n
              · rw [if_pos (.inr h2)]
                go_wp2
                go_roundw
                case rel => exact ⟨j + 1, by go_num, by omega, R⟩
                case measure => simp [intOf]; omega
              · rw [if_neg (by omega)]
                go_wp2
                go_roundw
                case rel => exact ⟨j + 1, by go_num, by omega, R⟩
                case measure => simp [intOf]; omega
          · have hk2' : (a.kind == 2) = false := by simpa using hk2
            have R : Hid (∃ kv X S, Rnd w Wa z kv X S (j + 1)) := ⟨_, _, _, HMa.out, by omega, by omega⟩
            clear hk2 hk01
            go_wp2
            go_roundw
            case rel => exact ⟨j + 1, by go_num, by omega, R⟩
            case measure => simp [intOf]; omega
      · have HG := Lib.hid (sget_calls (z + 1) z kv X S key m wr hMy.st (max_of hk))
        have hgc := getS_cases S key m
        obtain ⟨u, hu⟩ : ∃ u, getS S key m = u := ⟨_, rfl⟩
        rw [hu] at HG hgc
        clear hu
        obtain ⟨u1, u2⟩ := u
        have HMr := Lib.hid hMy
        clear hMy hla hen
        go_wp2_with fail
        refine HG.out.mono ?_
        rintro e w3 ⟨rfl, hb3⟩
        have HM3 := Lib.hid (HMr.out.below hb3)
        clear HG HMr hb3
        go_wp2_with fail
        refine (sfloor_calls (z + 1) z kv X S w3 HM3.out.st).mono ?_
        rintro e w4 ⟨rfl, rfl⟩
        rcases hgc with ⟨h1, h2⟩ | ⟨h1, h2, h3⟩ | ⟨h1, h2, h3⟩
        · replace h2 : u2 = 11 := h2
          subst h2
          go_wp2_with fail
          refine (hlive.out _ HM3.out.be).mono ?_
          rintro e w5 ⟨rfl, hb5⟩
          go_wp2
          go_ret
          exact ⟨rfl, hb5⟩
        · replace h3 : u2 = 2 := h3
          subst h3
          go_wp2_with fail
          refine (slast_calls (z + 1) z kv X S w3 HM3.out.st).mono ?_
          rintro e w4 ⟨rfl, rfl⟩
          go_wp2_with fail
          refine (hlive.out _ HM3.out.be).mono ?_
          rintro e w5 ⟨rfl, hb5⟩
          go_wp2
          go_ret
          exact ⟨rfl, hb5⟩
        · replace h3 : u2 = 0 ∨ u2 = 8 := h3
          go_wp2_with fail
          refine (slast_calls (z + 1) z kv X S w3 HM3.out.st).mono ?_
          rintro e w4 ⟨rfl, rfl⟩
          rcases h3 with rfl | rfl
          · go_wp2_with fail
            refine (hlive.out _ HM3.out.be).mono ?_
            rintro e w5 ⟨rfl, hb5⟩
            go_wp2
            go_ret
            exact ⟨rfl, hb5⟩
          · go_wp2_with fail
            refine (hlive.out _ HM3.out.be).mono ?_
            rintro e w5 ⟨rfl, hb5⟩
            go_wp2
            go_ret
            exact ⟨rfl, hb5⟩
end Go.Proofs.Ytnleldogmogkgaa
