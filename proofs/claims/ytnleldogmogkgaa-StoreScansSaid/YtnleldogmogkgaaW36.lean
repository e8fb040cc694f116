import Derived.Test.YtnleldogmogkgaaW35
import Derived.Test.YtnleldogmogkgaaW23
import Derived.Test.YtnleldogmogkgaaW19
import Derived.Test.YtnleldogmogkgaaSto4
/-! StoreScans. -/
namespace Go.Proofs.Ytnleldogmogkgaa
open Go.RowKit Go.Op

theorem info9 : (Try.prog.info? 9).map (fun i => (i.zero, i.size, i.bytes)) = some (some (.string ⟨#[]⟩), 1, 16) := by kernel_rfl
theorem via4 {α β γ δ : Type} {Goal : Prop} (H : α → β → γ → δ → Prop) {G : α → β → γ → δ → Prop} (main : Hid (∀ a b c d, H a b c d → G a b c d) → Goal) (key : ∀ a b c d, H a b c d → G a b c d) : Goal := main key
/-- Between two acts: the store, and the keys that were installed. -/
structure SRnd (wx W : World) (z base : Nat) (vk : Value) (T U : Nat) (S : Sto) (kv : Value) (X : List Nat) (ks : List ByteArray) (j : Nat) : Prop where
  my : My wx W (z + 1) z kv X S
  row : KeyRow W base vk ks X (z + 1) z kv
  la : S.last ≤ (j : Int)
  en : S.ents.length ≤ T
  kl : ks.length ≤ U
  ksz : ∀ k ∈ ks, k.size ≤ 140737488351232
  zb : base ≤ W.heap.size

set_option maxHeartbeats 8000000 in
set_option maxRecDepth 100000 in
theorem scans_calls (acts : List SAct) (A : Option Addr) (n c : Nat) (x : SAct) (P : Option Addr) (np cp : Nat) (w : World) (hl : Sl tAct w (fun _ => True) (.slice A n c) acts) (ho : ∀ a ∈ acts, ActOk a) (hp : Sl tPair w (fun _ => True) (.slice P np cp) x.l) (hx : ActOk x) :
    Calls Try.prog 3 #[.slice A n c, .agg #[.int .i64 x.kind, .int .i64 x.n, .int .i64 x.most, .slice P np cp, .string x.fr, .string x.to]] w fun e w' => e = .returned (.bool true) ∧ Below w.heap.size w w' := by
  have hln := hl.length
  obtain ⟨hln, hcap, hcm⟩ := hln
  obtain ⟨z0, hz0⟩ : ∃ z, w.heap.size = z := ⟨_, rfl⟩
  obtain ⟨C, hC⟩ : ∃ C, #[Value.int .i64 x.kind, .int .i64 x.n, .int .i64 x.most, .slice P np cp, .string x.fr, .string x.to] = C := ⟨_, rfl⟩
  obtain ⟨wx, hwx⟩ : ∃ wx, w.alloc (.cells C 25) = wx := ⟨_, rfl⟩
  have hzx : wx.heap.size = z0 + 1 := by rw [← hwx]; simp [hz0]
  have hbx : Below w.heap.size w wx := by rw [← hwx]; exact (Below.refl _ _).alloc (Nat.le_refl _) _
  have hBX : Blk wx z0 C 25 := by rw [← hwx, ← hz0]; exact Blk.new _ _ _
  have HL := Lib.hid (hl.below hbx)
  have HO := Lib.hid ho
  have HLN := Lib.hid hln
  have HP := Lib.hid (hp.below hbx)
  have HX := Lib.hid hx
  have HBX := Lib.hid hBX
  have HWX := Lib.hid hbx
  have HZ0 := Lib.hid hz0
  have HLI := Lib.hid (fun W (hM : Sl tAct W (fun _ => True) (.slice A n c) acts) => light2_calls acts A n c W hM ho)
  clear hl ho hp hx hbx hBX hln
  subst hC
  go_enter Try.func3, Try.ntmps3
  go_wp2_with fail
  refine (my_new wx wx (Below.refl _ _)).mono ?_
  rintro e w1 ⟨rfl, hM1⟩
  rw [hzx] at hM1 ⊢
  have HM1 := Lib.hid hM1
  clear hM1
  have HLJ := Lib.hid (HLI.out w1 ((HM1.out.arg HL.out).mono fun _ _ => trivial))
  go_wp2_with fail
  refine HLJ.out.mono ?_
  rintro e w2 ⟨b, rfl, hb, hb2⟩
  have HM2 := Lib.hid (HM1.out.below hb2)
  have HBE2 : Hid (Below w.heap.size w w2) := HWX.out.trans (HM2.out.be.mono HWX.out.size)
  have hlive : Hid (∀ W, Below w.heap.size w W → Calls Try.prog 12 #[] W fun e w' => e = .returned (.bool true) ∧ Below w.heap.size w w') := fun W h => (lives_calls W).mono fun e w' ⟨e1, h1⟩ => ⟨e1, h.trans (h1.mono h.size)⟩
  clear HLJ HM1 hb2 hwx
  cases b
  · clear hb
    go_wp2_with fail
    refine (hlive.out _ HBE2.out).mono ?_
    rintro e w9 ⟨rfl, hb9⟩
    go_wp2
    go_ret
    exact ⟨rfl, hb9⟩
  · obtain ⟨hn60, hfew, htot⟩ := hb rfl
    have HFEW := Lib.hid hfew
    have hB2 := HBX.out.below HM2.out.be (by omega)
    have y0 := hB2.cell 0
    have y1 := hB2.cell 1
    have y2 := hB2.cell 2
    have y3 := hB2.cell 3
    have y4 := hB2.cell 4
    have y5 := hB2.cell 5
    have hz2 : z0 + 1 ≤ w2.heap.size := by have := HM2.out.be.size; omega
    obtain ⟨w3, hw3⟩ : ∃ w3, w2.alloc (.cells #[.int .i64 x.kind, .int .i64 x.n, .int .i64 x.most, .slice P np cp, .string x.fr, .string x.to] 25) = w3 := ⟨_, rfl⟩
    have hb3 : Below w2.heap.size w2 w3 := by rw [← hw3]; exact (Below.refl _ _).alloc (Nat.le_refl _) _
    have hB3 : Blk w3 w2.heap.size #[.int .i64 x.kind, .int .i64 x.n, .int .i64 x.most, .slice P np cp, .string x.fr, .string x.to] 25 := by rw [← hw3]; exact Blk.new _ _ _
    have HM3 := Lib.hid (HM2.out.below hb3)
    have HLX := Lib.hid (light_calls [x] (some ⟨w2.heap.size, 0, none⟩) 1 1 w3 (one_act hB3 ((HM3.out.arg HP.out).mono fun _ _ => trivial)) (by intro a ha; rw [List.mem_singleton.1 ha]; exact HX.out))
    clear hb hfew hB2 hb3 hB3 HM2 HBE2
    go_wp2_with fail
    refine HLX.out.mono ?_
    rintro e w4 ⟨b, rfl, hb, hb4⟩
    have HM4 := Lib.hid (HM3.out.below hb4)
    have HBE4 : Hid (Below w.heap.size w w4) := HWX.out.trans (HM4.out.be.mono HWX.out.size)
    clear HLX HM3 hb4 hw3 y0 y1 y2 y3 y4 y5
    cases b
    case false =>
      clear hb
      go_wp2_with fail
      refine (hlive.out _ HBE4.out).mono ?_
      rintro e w9 ⟨rfl, hb9⟩
      go_wp2
      go_ret
      exact ⟨rfl, hb9⟩
    case true =>
      have hfx := (hb rfl).2 x (by simp)
      obtain ⟨-, hf1, hf2⟩ := hfx
      clear hb HBE4
      obtain ⟨z4, hz4⟩ : ∃ q, w4.heap.size = q := ⟨_, rfl⟩
      obtain ⟨w5, hw5⟩ : ∃ w5, w4.alloc (.cells #[] 9) = w5 := ⟨_, rfl⟩
      have hK0 := keys_new HM4.out
      rw [hw5, hz4] at hK0
      have HA0 : Hid (∃ S kv X ks, SRnd wx w5 (z0 + 1) z4 (.slice (some ⟨z4, 0, none⟩) 0 0) (tot (acts.take 0)) (tot (acts.take 0)) S kv X ks 0 ∧ ks.length = 0) := by
        obtain ⟨X', h1, h2⟩ := hK0
        exact ⟨_, _, _, _, ⟨h1, h2, by simp [Sto.new], by simp [Sto.new], by simp, by simp, by rw [← hz4, ← hw5]; simp⟩, rfl⟩
      have hz1x : wx.heap.size ≤ z4 := by rw [← hz4]; exact HM4.out.be.size
      clear hK0 HM4
      go_wp2
      go_loopw [6, 40] (fun vk i wr => ∃ (j : Nat) (Pk : Option Addr) (k ck : Nat), i = .int .i64 j ∧ j ≤ n ∧ vk = .slice Pk k ck ∧ Hid (∃ S kv X ks, SRnd wx wr (z0 + 1) z4 (.slice Pk k ck) (tot (acts.take j)) (tot (acts.take j)) S kv X ks j ∧ ks.length = k)) (fun _ i _ => n - (intOf i).toNat)
      case atStart => exact ⟨0, some ⟨z4, 0, none⟩, 0, 0, rfl, by omega, rfl, HA0⟩
      case round =>
        obtain ⟨j, Pk, k, ck, rfl, hj, rfl, hAt⟩ := hrel
        clear HA0
        obtain ⟨S, kv, X, ks, hAt, hkl⟩ := hAt.out
        obtain ⟨hMy, hRow, hla, hen, hkc, hks, hzb⟩ := hAt
        have hla0 : 0 ≤ S.last := by have := hMy.st.ok.fl; have := hMy.st.ok.le; omega
        have htj := tot_le (l := acts) j
        by_cases hlt : j < n
        · obtain ⟨a, ha⟩ := some_at (show j < acts.length by rw [HLN.out]; exact hlt)
          obtain ⟨b, off, Pa, na, ca, rfl, hbl, x0, x1, x2, x3, x4, x5, hPa⟩ := sl_act ((hMy.arg HL.out).mono (ok' := fun _ => True) fun _ _ => trivial) ha
          have hPw : Hid (Sl tPair wx (fun _ => True) (.slice Pa na ca) a.l) := by
            obtain ⟨b', off', P', np', cp', e', -, -, -, -, y3, -, -, hP'⟩ := sl_act HL.out ha
            injection e' with e'
            injection e' with e1 e2
            subst e1 e2
            have hlt' : b < wx.heap.size := World.block_lt_of_cell? wx _ y3
            have := (hMy.be.cell (p := ⟨b, off + j * 6 + 3, none⟩) hlt').trans y3
            rw [this] at x3
            injection x3 with x3
            injection x3 with q1 q2 q3
            subst q1 q2 q3
            exact hP'
          obtain ⟨-, -, ha3, ha4, ha5⟩ := HO.out a (List.mem_of_getElem? ha)
          obtain ⟨hfa, -, -⟩ := HFEW.out a (List.mem_of_getElem? ha)
          have HSH := Lib.hid ha3
          obtain ⟨ak, hak⟩ : ∃ q, a.kind = q := ⟨_, rfl⟩
          rw [hak] at x0
          clear hak
          obtain ⟨ga, hga⟩ : ∃ ga, wr.heap.size = ga := ⟨_, rfl⟩
          have hba := (Below.refl wr.heap.size wr).alloc (Nat.le_refl _) (.cells #[.int .i64 ak, .int .i64 a.n, .int .i64 a.most, .slice Pa na ca, .string a.fr, .string a.to] 25)
          have hPb : Blk (wr.alloc (.cells #[.int .i64 ak, .int .i64 a.n, .int .i64 a.most, .slice Pa na ca, .string a.fr, .string a.to] 25)) ga #[.int .i64 ak, .int .i64 a.n, .int .i64 a.most, .slice Pa na ca, .string a.fr, .string a.to] 25 := by rw [← hga]; exact Blk.new _ _ _
          have hMa := hMy.below hba
          obtain ⟨Wa, hWa⟩ : ∃ Wa, wr.alloc (.cells #[.int .i64 ak, .int .i64 a.n, .int .i64 a.most, .slice Pa na ca, .string a.fr, .string a.to] 25) = Wa := ⟨_, rfl⟩
          rw [hWa] at hPb hMa
          have HMa := Lib.hid hMa
          have HPa := Lib.hid hPb
          have hgX : Hid (ga ∉ X) := fun hm => by have := hMy.st.lt _ hm; omega
          have y0 := hPb.cell 0
          have y3 := hPb.cell 3
          have HTS : Hid (tot (acts.take (j + 1)) = tot (acts.take j) + a.l.length) := tot_take ha
          have htj1 := tot_le (l := acts) (j + 1)
          have hzba : z4 ≤ Wa.heap.size := by rw [← hWa]; simp; omega
          have HRa := Lib.hid (hRow.below hba)
          rw [hWa] at HRa
          have HKS := Lib.hid hks
          have HKL := Lib.hid hkl
          have hT1 := HTS.out
          clear hba hPa ha ha3 hMy hPb hMa hRow hks hkl
          by_cases hk0 : ak = 0
          · subst hk0
            have hcs : (∃ S4, inst S (S.last + 1) a.l = (0, S4)) ∨ inst S (S.last + 1) a.l = (2, S) := by
              rcases inst_cases S (S.last + 1) a.l with ⟨-, -, hi⟩ | ⟨-, hne, -⟩ | ⟨-, hi⟩
              · exact .inl ⟨_, hi⟩
              · exact absurd rfl hne
              · exact .inr hi
            have hwr : IntKind.i64.wrap (S.last + 1) = S.last + 1 := IntWalk.i64_in _ (by omega)
            have h14 : Hid (∀ W, Below Wa.heap.size Wa W → Calls Try.prog 14 #[.pointer (some ⟨z0 + 1 + 1, 0, none⟩)] W fun e w' => e = .returned (.int .i64 S.last) ∧ W = w') := fun W h => slast_calls (z0 + 1 + 1) (z0 + 1) kv X S W (HMa.out.below h).st
            have h13 : Hid (∀ W, Below Wa.heap.size Wa W → Calls Try.prog 13 #[.pointer (some ⟨z0 + 1 + 1, 0, none⟩), .int .i64 (S.last + 1), .slice Pa na ca] W fun e w' => e = .returned (.int .i64 (inst S (S.last + 1) a.l).1) ∧ Hid (∃ S' kv' X', My wx w' (z0 + 1 + 1) (z0 + 1) kv' X' S' ∧ KeyRow w' z4 (.slice Pk k ck) ks X' (z0 + 1 + 1) (z0 + 1) kv' ∧ S'.last ≤ (j : Int) + 1 ∧ S'.ents.length ≤ tot (acts.take (j + 1)) ∧ z4 ≤ w'.heap.size ∧
                Blk w' ga #[.int .i64 0, .int .i64 a.n, .int .i64 a.most, .slice Pa na ca, .string a.fr, .string a.to] 25)) := fun W h => by
              have hM := HMa.out.below h
              have hsz := inst_size hM.st.ok (S.last + 1) a.l
              exact (keys_install hM (HRa.out.below h) (hM.arg hPw.out) HSH.out (by omega) (by omega) (by omega) (by omega)).mono fun e w' ⟨e1, kv', X', h1, h2, h5, h3⟩ => ⟨e1, _, kv', X', h1, h2, by omega, by omega, Nat.le_trans hzba (Nat.le_trans h.size h5), (h3 ga (Nat.lt_of_lt_of_le HPa.out.lt h.size) hgX.out).trans (HPa.out.below h HPa.out.lt)⟩
            have hbW : Below Wa.heap.size Wa Wa := Below.refl _ _
            rcases hcs with ⟨S4, hi⟩ | hi
            · rw [hi] at h13
              clear hi
              go_wp2_with fail
              clear hWa x0 x1 x2 x3 x4 x5
              go_region_law (first
                | (go_simp; go_at_call 14; refine (h14.out _ ?_).mono ?_; (focus (repeat (first | with_reducible exact hbW | apply Below.drew))); rintro e w6 ⟨rfl, rfl⟩)
                | (go_simp; go_at_call 13; refine (h13.out _ ?_).mono ?_; (focus (repeat (first | with_reducible exact hbW | apply Below.drew))); rintro e wB ⟨rfl, hR⟩))
              all_goals
                have HR := hR
                clear hwr h14 h13 y0 y3 hR HMa HRa HPa
                have HI0 : Hid (∃ S kv X ks, SRnd wx wB (z0 + 1) z4 (.slice Pk k ck) (tot (acts.take (j + 1))) (tot (acts.take j) + 0) S kv X ks (j + 1) ∧ ks.length = k) := by
                  obtain ⟨S', kv', X', h1, h2, h3, h4, h5, -⟩ := HR.out
                  exact ⟨S', kv', X', ks, ⟨h1, h2, by omega, by omega, by omega, HKS.out, h5⟩, HKL.out⟩
                have HPB : Hid (Blk wB ga #[.int .i64 0, .int .i64 a.n, .int .i64 a.most, .slice Pa na ca, .string a.fr, .string a.to] 25) := by
                  obtain ⟨S', kv', X', h1, h2, h3, h4, h5, h6⟩ := HR.out
                  exact h6
                have y3 := HPB.out.cell 3
                have HPN := Lib.hid hPw.out.length.1
                clear HR hAt
                go_wp2
                go_loopw [6, 60] (fun vk i wr2 => ∃ (i2 : Nat) (Pk : Option Addr) (k ck : Nat), i = .int .i64 i2 ∧ i2 ≤ na ∧ vk = .slice Pk k ck ∧ Hid (∃ S kv X ks, SRnd wx wr2 (z0 + 1) z4 (.slice Pk k ck) (tot (acts.take (j + 1))) (tot (acts.take j) + i2) S kv X ks (j + 1) ∧ ks.length = k)) (fun _ i _ => na - (intOf i).toNat)
                case atStart => exact ⟨0, Pk, k, ck, rfl, by omega, rfl, HI0⟩
                case round =>
                  obtain ⟨i2, Pk2, k2, cp2, rfl, hi2, rfl, hAt2⟩ := hrel
                  clear HI0 y3 HPB
                  by_cases hlt2 : i2 < na
                  · obtain ⟨S2, kv2, X2, ks2, hA2, hkl2⟩ := hAt2.out
                    obtain ⟨hM2, hR2, hla2, hen2, hkc2, hks2, hzb2⟩ := hA2
                    obtain ⟨p, hp⟩ := some_at (show i2 < a.l.length by rw [HPN.out]; exact hlt2)
                    obtain ⟨g, off2, rfl, hg, x0, x1, x2⟩ := sl_pair (hM2.arg hPw.out) hp
                    have hps := (HSH.out p (List.mem_of_getElem? hp)).1
                    obtain ⟨w7, hw7⟩ : ∃ w7, wr.alloc (.cells #[.string p.key, .string p.val, .bool p.dead] 35) = w7 := ⟨_, rfl⟩
                    have hz7 : w7.heap.size = wr.heap.size + 1 := by rw [← hw7]; simp
                    have hb7 : Below wr.heap.size wr w7 := by rw [← hw7]; exact (Below.refl _ _).alloc (Nat.le_refl _) _
                    have hV7 : Blk w7 wr.heap.size #[.string p.key, .string p.val, .bool p.dead] 35 := by rw [← hw7]; exact Blk.new _ _ _
                    have HM7 := Lib.hid (hM2.below hb7)
                    have HR7 := Lib.hid (hR2.below hb7)
                    have y0 := hV7.cell 0
                    have hz4' : z4 ≤ w7.heap.size := by omega
                    have hna : na ≤ 60 := by rw [← HPN.out]; exact hfa
                    have HKS2 := Lib.hid hks2
                    have HKL2 := Lib.hid hkl2
                    have hKk : Hid (Ty.str.K w7 (fun b => none_ b ∧ (Value.slice Pk2 k2 cp2).ownBlock ≠ some b) p.key [.string p.key]) := rfl
                    clear hM2 hR2 hks2 hkl2 hp hb7 hV7 hAt2
                    go_wp2_with (at_builtin
                                 refine wpList_app1 (o := ⟨some 68, _, _, _, _, _⟩) (t := Ty.str) (w0 := w7) (g := wr.heap.size + 1) (cs := [.string p.key]) (y := p.key) z4 rfl _ _ 30 9 _ 16 rfl Try.underlying30 info9 rfl (by decide) (by decide) rfl hz7 rfl HR7.out.own hKk.out (Below.refl _ _) ?c2 ?c3 ?_
                                 (case c2 => exact hz4')
                                 (case c3 => omega)
                                 intro v8 w8 hO8 hB8 hg8 hv8
                                 obtain ⟨P8, c8, rfl, -⟩ := hO8.form
                                 obtain ⟨k8, hk8⟩ : ∃ q, (ks2 ++ [p.key]).length = q := ⟨_, rfl⟩
                                 rw [hk8] at hO8 hv8 ⊢
                                 have HX8 := Lib.hid (keys_push HM7.out HR7.out hO8 hg8 hv8)
                                 have HK8 := Lib.hid hk8
                                 have HZ8 : Hid (z4 ≤ w8.heap.size) := Nat.le_trans hz4' hg8.size
                                 clear hO8 hB8 hg8 hv8 hk8)
                    have R : Hid (∃ S kv X ks, SRnd wx w8 (z0 + 1) z4 (.slice P8 k8 c8) (tot (acts.take (j + 1))) (tot (acts.take j) + (i2 + 1)) S kv X ks (j + 1) ∧ ks.length = k8) := by
                      obtain ⟨X8, h1, h2⟩ := HX8.out
                      refine ⟨S2, kv2, X8, ks2 ++ [p.key], ⟨h1, h2, hla2, hen2, by simp; omega, fun q hq => ?_, HZ8.out⟩, HK8.out⟩
                      rcases List.mem_append.1 hq with hq | hq
                      · exact HKS2.out q hq
                      · rw [List.mem_singleton.1 hq]; exact hps
                    clear HX8 HK8 HM7 HR7 HKS2 HKL2 y0
                    go_roundw
                    case rel => exact ⟨i2 + 1, P8, k8, c8, by go_num, by omega, rfl, R⟩
                    case measure => simp [intOf]; omega
                  · obtain rfl : i2 = na := by omega
                    have HPN' := HPN.out
                    have R : Hid (∃ S kv X ks, SRnd wx wr (z0 + 1) z4 (.slice Pk2 k2 cp2) (tot (acts.take (j + 1))) (tot (acts.take (j + 1))) S kv X ks (j + 1) ∧ ks.length = k2) := by
                      obtain ⟨S2, kv2, X2, ks2, hA2, hkl2⟩ := hAt2.out
                      obtain ⟨hM2, hR2, hla2, hen2, hkc2, hks2, hzb2⟩ := hA2
                      exact ⟨S2, kv2, X2, ks2, ⟨hM2, hR2, hla2, hen2, by omega, hks2, hzb2⟩, hkl2⟩
                    clear HPN'
                    go_wp2
                    exact ⟨⟨j + 1, Pk2, k2, cp2, by go_num, by omega, rfl, R⟩, by simp [intOf]; omega⟩
            · rw [hi] at h13
              clear hi
              go_wp2_with fail
              clear hWa x0 x1 x2 x3 x4 x5
              go_region_law (first
                | (go_simp; go_at_call 14; refine (h14.out _ ?_).mono ?_; (focus (repeat (first | with_reducible exact hbW | apply Below.drew))); rintro e w6 ⟨rfl, rfl⟩)
                | (go_simp; go_at_call 13; refine (h13.out _ ?_).mono ?_; (focus (repeat (first | with_reducible exact hbW | apply Below.drew))); rintro e wB ⟨rfl, hR⟩))
              all_goals
                have HR := hR
                clear hwr h14 h13 y0 y3 hR HMa HRa HPa
                have R : Hid (∃ S kv X ks, SRnd wx wB (z0 + 1) z4 (.slice Pk k ck) (tot (acts.take (j + 1))) (tot (acts.take (j + 1))) S kv X ks (j + 1) ∧ ks.length = k) := by
                  obtain ⟨S', kv', X', h1, h2, h3, h4, h5, -⟩ := HR.out
                  exact ⟨S', kv', X', ks, ⟨h1, h2, by omega, by omega, by omega, HKS.out, h5⟩, HKL.out⟩
                clear HR hAt
                go_wp2
                go_roundw
                case rel => exact ⟨j + 1, Pk, k, ck, by go_num, by omega, rfl, R⟩
                case measure => simp [intOf]; omega
          · have hk0' : (ak == 0) = false := by simpa using hk0
            have R : Hid (∃ S kv X ks, SRnd wx Wa (z0 + 1) z4 (.slice Pk k ck) (tot (acts.take (j + 1))) (tot (acts.take (j + 1))) S kv X ks (j + 1) ∧ ks.length = k) := ⟨S, kv, X, ks, ⟨HMa.out, HRa.out, by omega, by omega, by omega, HKS.out, hzba⟩, HKL.out⟩
            go_wp2_with fail
            clear hk0
            go_quiet (fail)
            have R' : Hid (∃ S kv X ks, SRnd wx (Wa.drewN nq) (z0 + 1) z4 (.slice Pk k ck) (tot (acts.take (j + 1))) (tot (acts.take (j + 1))) S kv X ks (j + 1) ∧ ks.length = k) := by
              have hb := below_drewN (Below.refl Wa.heap.size Wa) nq
              exact ⟨S, kv, X, ks, ⟨HMa.out.below hb, HRa.out.below hb, by omega, by omega, by omega, HKS.out, hzba⟩, HKL.out⟩
            clear R HMa HRa HPa
            go_wp2
            go_roundw
            case rel => exact ⟨j + 1, Pk, k, ck, by go_num, by omega, rfl, R'⟩
            case measure => simp [intOf]; omega
        · obtain rfl : j = n := by omega
          have hTn : tot (acts.take j) ≤ 400 := by omega
          have HMy := Lib.hid hMy
          have HRow := Lib.hid hRow
          have HKS := Lib.hid hks
          have HKL := Lib.hid hkl
          have hBr := HBX.out.below hMy.be (by omega)
          have hzr : z0 < wr.heap.size := hBr.lt
          have HBr := Lib.hid hBr
          have y4 := hBr.cell 4
          have y5 := hBr.cell 5
          have h14 : Hid (∀ W, Below wr.heap.size wr W → Calls Try.prog 14 #[.pointer (some ⟨z0 + 1 + 1, 0, none⟩)] W fun e w' => e = .returned (.int .i64 S.last) ∧ W = w') := fun W h => slast_calls (z0 + 1 + 1) (z0 + 1) kv X S W (HMy.out.below h).st
          have hfrs : Hid (x.fr.size ≤ maxLen ∧ x.to.size ≤ maxLen) := ⟨by unfold maxLen; omega, by unfold maxLen; omega⟩
          have h15 : Hid (∀ W, Below wr.heap.size wr W → Calls Try.prog 15 #[.pointer (some ⟨z0 + 1 + 1, 0, none⟩), .string x.fr, .string x.to, .int .i64 S.last, .int .i64 1000] W fun e w' => ∃ P m c, e = .returned (.tuple #[.slice P m c, .int .i64 0]) ∧ Hid (Sl tPair w' (fun b => wr.heap.size ≤ b) (.slice P m c) (scan S.ents x.fr x.to S.last)) ∧ Hid (Below wr.heap.size wr w')) := fun W h => by
            refine (scan_calls (z0 + 1 + 1) (z0 + 1) kv X S x.fr x.to S.last 1000 W (HMy.out.below h).st hfrs.out.2 hfrs.out.1).mono ?_
            rintro e w' ⟨v, rfl, hs, hb⟩
            rw [scanS_last HMy.out.st.ok] at hs ⊢
            have hl := scan_length S.ents x.fr x.to S.last
            rw [List.take_of_length_le (by show _ ≤ 1000; omega)] at hs
            obtain ⟨P, c, rfl, -⟩ := hs.form
            exact ⟨P, _, c, rfl, hs.mono fun b hb => Nat.le_trans h.size hb, h.trans (hb.mono h.size)⟩
          have hbW : Below wr.heap.size wr wr := Below.refl _ _
          clear hMy hRow hks hkl hBr hAt
          go_wp2_with fail
          apply via4 (fun PS mS cS wS => Hid (Sl tPair wS (fun b => wr.heap.size ≤ b) (.slice PS mS cS) (scan S.ents x.fr x.to S.last)) ∧ Hid (Below wr.heap.size wr wS))
          case main =>
            intro HKEY
            go_region_law (first
              | (go_simp; go_at_call 14; refine (h14.out _ ?_).mono ?_; (focus (repeat (first | with_reducible exact hbW | apply Below.drew))); rintro e w6 ⟨rfl, rfl⟩)
              | (go_simp; go_at_call 15; refine (h15.out _ ?_).mono ?_; (focus (repeat (first | with_reducible exact hbW | apply Below.drew))); rintro e wS ⟨PS, mS, cS, rfl, hRS, hRB⟩))
            all_goals exact HKEY.out _ _ _ _ ⟨hRS, hRB⟩
          case key =>
            intro PS mS cS wS ⟨hRS, hRB⟩
            have HRS := hRS
            have HRB := hRB
            clear hRS hRB y4 y5 h15 h14
            have HG : Hid (∀ p ∈ scan S.ents x.fr x.to S.last, getS S p.key S.last = (p.val, 0) ∧ p.dead = false ∧ klt p.key x.fr = false ∧ klt p.key x.to = true ∧ p.key.size ≤ maxLen) := fun p hp => by
              obtain ⟨g1, g2, g3, g4⟩ := scan_get HMy.out.st.ok hp
              have := scan_key HMy.out.st.ok hp
              exact ⟨g1, g2, g3, g4, by unfold maxLen; omega⟩
            have HNX : Hid (∀ (j : Nat) (p q : Pair), (scan S.ents x.fr x.to S.last)[j]? = some p → (scan S.ents x.fr x.to S.last)[j + 1]? = some q → klt p.key q.key = true) := fun j p q hp hq => scan_next HMy.out.st.ok.rising hp hq
            have HAN : Hid (∀ k, ((scan S.ents x.fr x.to S.last).any fun p => p.key.toList == k.toList) = (decide ((getS S k S.last).2 = 0) && (!klt k x.fr && klt k x.to))) := fun k => scan_any HMy.out.st.ok x.fr x.to k
            obtain ⟨B, hBd⟩ : ∃ B : World → Prop, B = fun W => Below wr.heap.size wr W ∧ Below wS.heap.size wS W := ⟨_, rfl⟩
            have HB0 : Hid (B wS) := by show B wS; rw [hBd]; exact ⟨HRB.out, Below.refl _ _⟩
            have HBs : Hid (∀ W W', B W → Below W.heap.size W W' → B W') := fun W W' h hb => by
              rw [hBd] at h ⊢
              exact ⟨h.1.trans (hb.mono h.1.size), h.2.trans (hb.mono h.2.size)⟩
            have h14 : Hid (∀ W, B W → Calls Try.prog 14 #[.pointer (some ⟨z0 + 1 + 1, 0, none⟩)] W fun e w' => e = .returned (.int .i64 S.last) ∧ Below W.heap.size W w') := fun W h => by
              rw [hBd] at h
              exact (slast_calls (z0 + 1 + 1) (z0 + 1) kv X S W (HMy.out.below h.1).st).mono fun e w' ⟨h1, h2⟩ => ⟨h1, h2 ▸ Below.refl _ _⟩
            have h16 : Hid (∀ (k v : ByteArray) (q : Int) W, B W → getS S k S.last = (v, q) → k.size ≤ maxLen → Calls Try.prog 16 #[.pointer (some ⟨z0 + 1 + 1, 0, none⟩), .string k, .int .i64 S.last] W fun e w' => e = .returned (.tuple #[.string v, .int .i64 q]) ∧ Below W.heap.size W w') := fun k v q W h e hk => by
              rw [hBd] at h
              have := sget_calls (z0 + 1 + 1) (z0 + 1) kv X S k S.last W (HMy.out.below h.1).st hk
              rw [e] at this; exact this
            have h14c : Hid (∀ W, B W → Calls Try.prog 14 #[.pointer (some ⟨z0 + 1 + 1, 0, none⟩)] W fun e w' => e = .returned (.int .i64 S.last) ∧ W = w') := fun W h => by
              rw [hBd] at h
              exact slast_calls (z0 + 1 + 1) (z0 + 1) kv X S W (HMy.out.below h.1).st
            have h15c : Hid (∀ W, B W → Calls Try.prog 15 #[.pointer (some ⟨z0 + 1 + 1, 0, none⟩), .string x.fr, .string x.to, .int .i64 S.last, .int .i64 2] W fun e w' => ∃ P m c, e = .returned (.tuple #[.slice P m c, .int .i64 0]) ∧ Hid (Sl tPair w' (fun _ => True) (.slice P m c) ((scan S.ents x.fr x.to S.last).take 2)) ∧ Hid (B w')) := fun W h => by
              have h' := h
              rw [hBd] at h'
              refine (scan_calls (z0 + 1 + 1) (z0 + 1) kv X S x.fr x.to S.last 2 W (HMy.out.below h'.1).st hfrs.out.2 hfrs.out.1).mono ?_
              rintro e w' ⟨v, rfl, hs, hb⟩
              rw [scanS_last HMy.out.st.ok] at hs ⊢
              obtain ⟨P, c, rfl, -⟩ := hs.form
              exact ⟨P, _, c, rfl, hs.mono fun _ _ => trivial, HBs.out _ _ h hb⟩
            have HXB : Hid (∀ W, B W → Blk W z0 #[.int .i64 x.kind, .int .i64 x.n, .int .i64 x.most, .slice P np cp, .string x.fr, .string x.to] 25) := fun W h => by
              rw [hBd] at h; exact HBr.out.below h.1 hzr
            have HLB : Hid (∀ W, B W → Sl tPair W (fun _ => True) (.slice PS mS cS) (scan S.ents x.fr x.to S.last)) := fun W h => by
              rw [hBd] at h; exact (HRS.out.mono fun _ _ => trivial).below h.2
            have HKB : Hid (∀ W, B W → KeyRow W z4 (.slice Pk k ck) ks X (z0 + 1 + 1) (z0 + 1) kv) := fun W h => by
              rw [hBd] at h; exact HRow.out.below h.1
            have HWB : Hid (∀ W, B W → Below w.heap.size w W) := fun W h => by
              rw [hBd] at h
              exact HWX.out.trans ((HMy.out.be.trans (h.1.mono HMy.out.be.size)).mono HWX.out.size)
            have HLS := Lib.hid (HRS.out.length.1)
            have hmS : mS ≤ 1000 := by
              have h1 := scan_length S.ents x.fr x.to S.last
              have h2 := HLS.out
              omega
            clear hBd HRS HRB
            go_wp2
            go_loopw [86] (fun i w3 => ∃ j3 : Nat, i = .int .i64 j3 ∧ j3 ≤ mS ∧ Hid (B w3)) (fun i _ => mS - (intOf i).toNat)
            case atStart => exact ⟨0, rfl, by omega, HB0⟩
            case round =>
              obtain ⟨j3, rfl, hj3, hB⟩ := hrel
              clear HB0
              by_cases hlt3 : j3 < mS
              · obtain ⟨p, hp⟩ := some_at (show j3 < (scan S.ents x.fr x.to S.last).length by rw [HLS.out]; exact hlt3)
                obtain ⟨gL, oL, rfl, hgL, x0, x1, x2⟩ := sl_pair (HLB.out _ hB.out) hp
                obtain ⟨g1, g2, g3, g4, g5⟩ := HG.out p (List.mem_of_getElem? hp)
                obtain ⟨w7, hw7⟩ : ∃ w7, wr.alloc (.cells #[.string p.key, .string p.val, .bool p.dead] 35) = w7 := ⟨_, rfl⟩
                have hz7 : w7.heap.size = wr.heap.size + 1 := by rw [← hw7]; simp
                have hb7 : Below wr.heap.size wr w7 := by rw [← hw7]; exact (Below.refl _ _).alloc (Nat.le_refl _) _
                have hV7 : Blk w7 wr.heap.size #[.string p.key, .string p.val, .bool p.dead] 35 := by rw [← hw7]; exact Blk.new _ _ _
                have HB7 := Lib.hid (HBs.out _ _ hB.out hb7)
                have HV7 := Lib.hid hV7
                have y0 := hV7.cell 0
                have HP3 := Lib.hid hp
                have HG1 := Lib.hid g1
                have HG2 := Lib.hid g2
                have h5 : bytesLess p.key.toList x.fr.toList = false := g3
                have h6 : bytesLess p.key.toList x.to.toList = true := g4
                clear hb7 hV7 hp g1 g2 g3 g4
                go_wp2_with fail
                clear hw7 x0 x1 x2
                have hgp7 : wr.heap.size < w7.heap.size := HV7.out.lt
                refine wp_region_later (by kernel_rfl) (by kernel_rfl) ?_
                repeat (go_big_quiet_step (first
                  | (go_at_call 14; exact calls_later (h14.out _ (HBs.out _ _ HB7.out (later_below _))))
                  | (go_at_call 16; exact calls_later (h16.out _ _ _ _ (HBs.out _ _ HB7.out (later_below _)) HG1.out g5))))
                refine wpQuiet_nil ?_
                rintro _ ⟨e, rfl⟩
                have HB8 := Lib.hid (HBs.out _ _ HB7.out (later_below e))
                have HV8 := Lib.hid (HV7.out.below (later_below e) hgp7)
                generalize later w7 e = w8 at *
                have y0 := HV8.out.cell 0
                have y1 := HV8.out.cell 1
                have y2 : w8.cell? ⟨wr.heap.size, 2, none⟩ = some (.bool false) := by rw [HV8.out.cell 2, ← HG2.out]; rfl
                have hX8 := HXB.out _ HB8.out
                have y4 := hX8.cell 4
                have y5 := hX8.cell 5
                have hgp8 := HV8.out.lt
                have hX8z := hX8.lt
                clear hX8
                rcases Nat.eq_zero_or_pos j3 with hj0 | hj0
                · have hj1 : decide (0 < j3) = false := decide_eq_false (by omega)
                  clear hj0
                  go_wp2_with fail
                  go_quiet (fail)
                  have R : Hid (B (w8.drewN nq)) := HBs.out _ _ HB8.out (below_drewN (Below.refl _ _) nq)
                  go_wp2
                  go_roundw
                  case rel => exact ⟨j3 + 1, by go_num, by omega, R⟩
                  case measure => simp [intOf]; omega
                · obtain ⟨m3, hm3⟩ : ∃ m3, j3 = m3 + 1 := ⟨j3 - 1, by omega⟩
                  obtain ⟨o, ho⟩ := some_at (show m3 < (scan S.ents x.fr x.to S.last).length by rw [HLS.out]; omega)
                  have hlt8 := HNX.out m3 o p ho (by rw [← hm3]; exact HP3.out)
                  obtain ⟨g', off', e', hgl', z0', -, -⟩ := sl_pair (HLB.out _ HB8.out) ho
                  injection e' with e'
                  injection e' with e1 e2
                  subst e1 e2
                  have hsub : IntKind.i64.wrap ((j3 : Int) - 1) = (m3 : Int) := by
                    rw [show (j3 : Int) - 1 = (m3 : Int) by omega]; exact IntWalk.i64_in _ (by omega)
                  have hm0 : (0 : Int) ≤ (m3 : Int) := by omega
                  have hmn : (m3 : Int) < (mS : Int) := by omega
                  have hj1 : decide (0 < j3) = true := decide_eq_true (by omega)
                  have h7 : bytesLess p.key.toList o.key.toList = false := klt_asymm hlt8
                  have h8 : (p.key.toList == o.key.toList) = false := by rw [beq_key]; exact decide_eq_false (fun e => klt_ne hlt8 e.symm)
                  clear hm3 hj0 ho hlt8
                  go_wp2_with fail
                  go_quiet (fail)
                  have R : Hid (B (w8.drewN nq)) := HBs.out _ _ HB8.out (below_drewN (Below.refl _ _) nq)
                  go_wp2
                  go_roundw
                  case rel => exact ⟨j3 + 1, by go_num, by omega, R⟩
                  case measure => simp [intOf]; omega
              · obtain rfl : j3 = mS := by omega
                have HB4 := Lib.hid hB.out
                clear hB
                -- keys: loop 4 (slot 144), inside it loop 5 (slots 19, 150): HKB (the row), HAN (whether it is told), h14, h16
                go_wp2
                go_loopw [144] (fun i w3 => ∃ j4 : Nat, i = .int .i64 j4 ∧ j4 ≤ k ∧ Hid (B w3)) (fun i _ => k - (intOf i).toNat)
                case atStart => exact ⟨0, rfl, by omega, HB4⟩
                case round =>
                  obtain ⟨j4, rfl, hj4, hB⟩ := hrel
                  clear HB4
                  by_cases hlt4 : j4 < k
                  · obtain ⟨q, hq⟩ := some_at (show j4 < ks.length by rw [HKL.out]; exact hlt4)
                    obtain ⟨gK, oK, rfl, hgK, x0⟩ := sl_str (HKB.out _ hB.out).own.sl hq
                    have hk400 : k ≤ 400 := by have := HKL.out; omega
                    have HQS := Lib.hid (HKS.out q (List.mem_of_getElem? hq))
                    have hQ := HAN.out q
                    obtain ⟨v, f, hgf⟩ : ∃ v f, getS S q S.last = (v, f) := ⟨_, _, rfl⟩
                    rw [hgf] at hQ
                    have HGF := Lib.hid hgf
                    have HQ := Lib.hid hQ
                    have HB5 := Lib.hid hB.out
                    clear hq hgf hQ hB
                    go_wp2
                    go_loopw [19, 150] (fun vi i w5 => ∃ (j5 : Nat) (bi : Bool), i = .int .i64 j5 ∧ j5 ≤ j3 ∧ vi = .bool bi ∧ Hid (bi = (((scan S.ents x.fr x.to S.last).take j5).any fun p => p.key.toList == q.toList)) ∧ Hid (B w5)) (fun _ i _ => j3 - (intOf i).toNat)
                    case atStart => exact ⟨0, false, rfl, by omega, rfl, rfl, HB5⟩
                    case round =>
                      obtain ⟨j5, bi, rfl, hj5, rfl, hI, hB⟩ := hrel
                      clear HB5
                      by_cases hlt5 : j5 < j3
                      · obtain ⟨p, hp⟩ := some_at (show j5 < (scan S.ents x.fr x.to S.last).length by rw [HLS.out]; exact hlt5)
                        obtain ⟨gL, oL, rfl, hgL, x0, x1, x2⟩ := sl_pair (HLB.out _ hB.out) hp
                        have htk : ((scan S.ents x.fr x.to S.last).take (j5 + 1)).any (fun p => p.key.toList == q.toList) = (((scan S.ents x.fr x.to S.last).take j5).any (fun p => p.key.toList == q.toList) || (p.key.toList == q.toList)) := by
                          rw [List.take_add_one, hp, List.any_append]; simp
                        obtain ⟨w7, hw7⟩ : ∃ w7, wr.alloc (.cells #[.string p.key, .string p.val, .bool p.dead] 35) = w7 := ⟨_, rfl⟩
                        have hb7 : Below wr.heap.size wr w7 := by rw [← hw7]; exact (Below.refl _ _).alloc (Nat.le_refl _) _
                        have hV7 : Blk w7 wr.heap.size #[.string p.key, .string p.val, .bool p.dead] 35 := by rw [← hw7]; exact Blk.new _ _ _
                        have HB7 := Lib.hid (HBs.out _ _ hB.out hb7)
                        have y0 := hV7.cell 0
                        clear hb7 hV7 hp hB
                        cases bi
                        · cases hpq : (p.key.toList == q.toList)
                          · rw [hpq] at htk
                            have HI2 : Hid (false = (((scan S.ents x.fr x.to S.last).take (j5 + 1)).any fun p => p.key.toList == q.toList)) := by show _ = _; rw [htk, ← hI.out]; rfl
                            clear hI htk
                            go_wp2
                            go_roundw
                            case rel => exact ⟨j5 + 1, false, by go_num, by omega, rfl, HI2, HB7⟩
                            case measure => simp [intOf]; omega
                          · rw [hpq] at htk
                            have HI2 : Hid (true = (((scan S.ents x.fr x.to S.last).take (j5 + 1)).any fun p => p.key.toList == q.toList)) := by show _ = _; rw [htk, ← hI.out]; rfl
                            clear hI htk
                            go_wp2
                            go_roundw
                            case rel => exact ⟨j5 + 1, true, by go_num, by omega, rfl, HI2, HB7⟩
                            case measure => simp [intOf]; omega
                        · have HI2 : Hid (true = (((scan S.ents x.fr x.to S.last).take (j5 + 1)).any fun p => p.key.toList == q.toList)) := by show _ = _; rw [htk, ← hI.out]; rfl
                          clear hI htk
                          go_wp2
                          go_roundw
                          case rel => exact ⟨j5 + 1, true, by go_num, by omega, rfl, HI2, HB7⟩
                          case measure => simp [intOf]; omega
                      · obtain rfl : j5 = j3 := by omega
                        have hB0 := Lib.hid hB.out
                        have hI0 := hI.out
                        rw [List.take_of_length_le (by rw [HLS.out]; exact Nat.le_refl _), HQ.out] at hI0
                        have HI0 := Lib.hid hI0
                        clear hI hB hI0
                        go_wp2_with fail
                        refine (h14.out _ hB0.out).mono ?_
                        rintro e w8 ⟨rfl, hb8⟩
                        have HB8 := Lib.hid (HBs.out _ _ hB0.out hb8)
                        clear hb8 hB0
                        go_wp2_with fail
                        refine (h16.out _ _ _ _ HB8.out HGF.out (max_of HQS.out)).mono ?_
                        rintro e w9 ⟨rfl, hb9⟩
                        have HB9 := Lib.hid (HBs.out _ _ HB8.out hb9)
                        have hX9 := HXB.out _ HB9.out
                        have y4 := hX9.cell 4
                        have y5 := hX9.cell 5
                        have hX9z := hX9.lt
                        clear hb9 HB8 hX9
                        have hI0 := HI0.out
                        clear HI0
                        by_cases hf0 : f = 0
                        · subst hf0
                          cases hk1 : klt q x.fr
                          · cases hk2 : klt q x.to
                            · rw [hk1, hk2] at hI0
                              obtain rfl : bi = false := hI0
                              have h5 : bytesLess q.toList x.fr.toList = false := hk1
                              have h6 : bytesLess q.toList x.to.toList = false := hk2
                              clear hk1 hk2
                              go_wp2
                              have R := HB9
                              go_roundw
                              case rel => exact ⟨j4 + 1, by go_num, by omega, R⟩
                              case measure => simp [intOf]; omega
                            · rw [hk1, hk2] at hI0
                              obtain rfl : bi = true := hI0
                              have h5 : bytesLess q.toList x.fr.toList = false := hk1
                              have h6 : bytesLess q.toList x.to.toList = true := hk2
                              clear hk1 hk2
                              go_wp2
                              have R := HB9
                              go_roundw
                              case rel => exact ⟨j4 + 1, by go_num, by omega, R⟩
                              case measure => simp [intOf]; omega
                          · rw [hk1] at hI0
                            obtain rfl : bi = false := hI0
                            have h5 : bytesLess q.toList x.fr.toList = true := hk1
                            clear hk1
                            go_wp2
                            have R := HB9
                            go_roundw
                            case rel => exact ⟨j4 + 1, by go_num, by omega, R⟩
                            case measure => simp [intOf]; omega
                        · obtain rfl : bi = false := by rw [hI0, decide_eq_false hf0]; rfl
                          have hf1 : (f == 0) = false := by simpa using hf0
                          clear hI0 hf0
                          go_wp2
                          have R := HB9
                          go_roundw
                          case rel => exact ⟨j4 + 1, by go_num, by omega, R⟩
                          case measure => simp [intOf]; omega
                  · obtain rfl : j4 = k := by omega
                    have HB5 := Lib.hid hB.out
                    clear hB
                    have hBdr : ∀ W, B W → B W.drew := fun W h => HBs.out _ _ h (Below.refl _ _).drew
                    have hX9 := HXB.out _ HB5.out
                    have y4 := hX9.cell 4
                    have y5 := hX9.cell 5
                    have hX9z := hX9.lt
                    clear hX9
                    go_wp2_with fail
                    apply via4 (fun PF mF cF wF => Hid (Sl tPair wF (fun _ => True) (.slice PF mF cF) ((scan S.ents x.fr x.to S.last).take 2)) ∧ Hid (B wF))
                    case main =>
                      intro HKEY
                      go_region_law (first
                        | (go_simp; go_at_call 14; refine (h14c.out _ ?_).mono ?_; (focus (repeat (first | with_reducible exact HB5.out | apply hBdr))); rintro e w6 ⟨rfl, rfl⟩)
                        | (go_simp; go_at_call 15; refine (h15c.out _ ?_).mono ?_; (focus (repeat (first | with_reducible exact HB5.out | apply hBdr))); rintro e wF ⟨PF, mF, cF, rfl, hRF, hBF⟩))
                      all_goals exact HKEY.out _ _ _ _ ⟨hRF, hBF⟩
                    case key =>
                      intro PF mF cF wF ⟨hRF, hBF⟩
                      have HRF := hRF
                      have HBF := hBF
                      clear hRF hBF y4 y5 HB5
                      have hmF : mF = min 2 j3 := by
                        have h1 := HRF.out.length.1
                        have h2 := HLS.out
                        rw [List.length_take] at h1
                        rw [← h1, h2]
                      have hSl := HLB.out wF HBF.out
                      have hjc : j3 ≤ cS := hSl.length.2.1
                      have hmF2 : mF ≤ 2 := by omega
                      have hmFj : mF ≤ j3 := by omega
                      have hsl1 : ∀ W, (Instr.slice 23 (.slice PS j3 cS) none (some (.int .i64 (mF : Int))) none).run Try.prog W = .ok (.slice PS mF cS) W := fun W => run_slice_hi (e := 35) (sz := 3) Try.underlying23 (by kernel_rfl) PS (by omega) W
                      have hSt := hSl.take hmFj
                      have htk : (scan S.ents x.fr x.to S.last).take mF = (scan S.ents x.fr x.to S.last).take 2 := by
                        by_cases h : 2 ≤ j3
                        · have : mF = 2 := by rw [hmF]; exact Nat.min_eq_left h
                          rw [this]
                        · have : mF = j3 := by rw [hmF]; exact Nat.min_eq_right (by omega)
                          rw [List.take_of_length_le (by rw [HLS.out]; omega), List.take_of_length_le (by rw [HLS.out]; omega)]
                      rw [htk] at hSt
                      have h17 := Lib.hid (same_calls _ PF PS mF cF cS wF HRF.out hSt)
                      have hcs : mF = 2 ∨ (mF = j3 ∧ mF < 2) := by
                        by_cases h : 2 ≤ j3
                        · exact .inl (by rw [hmF]; exact Nat.min_eq_left h)
                        · exact .inr ⟨by rw [hmF]; exact Nat.min_eq_right (by omega), by omega⟩
                      have HCS := Lib.hid hcs
                      clear hmF hSl hSt htk hcs
                      go_wp2_with fail
                      refine h17.out.mono ?_
                      rintro e wG ⟨rfl, hbG⟩
                      have HBG := Lib.hid (HWB.out _ (HBs.out _ _ HBF.out hbG))
                      clear h17 hbG HBF hsl1
                      rcases HCS.out with hm2 | ⟨hmj, hm2⟩
                      · subst hm2
                        go_wp2_with fail
                        refine (hlive.out _ HBG.out).mono ?_
                        rintro e w9 ⟨rfl, hb9⟩
                        go_wp2
                        go_ret
                        exact ⟨rfl, hb9⟩
                      · have q1 : ((mF : Int) == 2) = false := by have : mF < 2 := hm2; simp only [beq_eq_false_iff_ne, ne_eq]; omega
                        have q2 : (mF == 2) = false := by have : mF < 2 := hm2; simp only [beq_eq_false_iff_ne, ne_eq]; omega
                        have q3 : ((mF : Int) == (j3 : Int)) = true := by rw [beq_iff_eq]; omega
                        clear hmj hm2
                        go_wp2_with fail
                        refine (hlive.out _ HBG.out).mono ?_
                        rintro e w9 ⟨rfl, hb9⟩
                        go_wp2
                        go_ret
                        exact ⟨rfl, hb9⟩
end Go.Proofs.Ytnleldogmogkgaa
