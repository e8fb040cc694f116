import Derived.Test.YtidfogcilegloaaW13
import Derived.Deep.QuietTactic
import Derived.BigQuiet
import Derived.Deep.RegionHeld3
/-! Install. -/
namespace Go.Proofs.Ytidfogcilegloaa
open Go.RowKit Go.Op

set_option maxHeartbeats 1000000 in
set_option maxRecDepth 100000 in
theorem install_go (pb mb : Nat) (kv : Value) (X : List Nat) (S : Sto) (l : List Pair) (A : Option Addr) (n c : Nat) (w : World) (h : Stm w pb mb kv X S) (hl : Sl tPair w (fun b => b ≠ pb ∧ b ≠ mb ∧ kv.ownBlock ≠ some b) (.slice A n c) l)
    (hg : goodL l = true) (hle : S.ents.length + l.length ≤ 100000) (hla : S.last < 1000000) (hs : Short l) :
    Calls Try.prog 20 #[.pointer (some ⟨pb, 0, none⟩), .int .i64 (S.last + 1), .slice A n c] w fun e w' => e = .returned (.int .i64 0) ∧ ∃ kv' X', Stm w' pb mb kv' X' ⟨addAll (S.last + 1) S.ents l, S.last + 1, S.floor⟩ ∧ Chg pb mb kv w w' ∧ Kin w kv kv' ∧ Xin w X X' := by
  obtain ⟨E, la, fl⟩ := S
  have hla' : la < 1000000 := hla
  have hok := h.ok
  have hfl : 0 ≤ fl := hok.fl
  have hfla : fl ≤ la := hok.le
  obtain ⟨g1, g2⟩ := goodL_all hg
  obtain ⟨c0, c1, c2, c3⟩ := h.cells
  have hln := hl.length
  have HMD := Lib.hid h.made
  have HGL := Lib.hid (goodl_calls l A n c w (hl.mono fun _ _ => trivial) hs)
  rw [hg] at HGL
  have HX := Lib.hid h.x
  have HM0 := Lib.hid (Mid.start hok l)
  have HLE := Lib.hid hle
  have HL := Lib.hid hl
  have HSH := Lib.hid hs
  have HG1 := Lib.hid g1
  have HG2 := Lib.hid g2
  have HF := Lib.hid h.few
  obtain ⟨hln, hcap, hcm⟩ := hln
  have HLN := Lib.hid hln
  have HOK : Hid (Sto.Ok ⟨addAll (la + 1) E l, la + 1, fl⟩) := by
    have := inst_ok hok (la + 1) l
    rw [inst, if_pos ⟨hg, rfl⟩] at this
    exact this
  clear h hl hok hln hle hs g1 g2 hg
  go_enter Try.func20, Try.ntmps20
  go_wp2_with fail
  refine HMD.out.mono ?_
  rintro e w0 ⟨rfl, rfl⟩
  go_wp2_with fail
  refine HGL.out.mono ?_
  rintro e w1 ⟨rfl, hb1⟩
  have hc := (bcell hb1).1
  have hpb : pb < w.heap.size := HX.out.lt _ HX.out.inP
  have c2' : w1.cell? ⟨pb, 2, none⟩ = some (.int .i64 la) := by rw [hc _ _ hpb]; exact c2
  have HX1 := Lib.hid (HX.out.below hb1)
  have HC1 : Hid (Chg pb mb kv w w1) := Chg.of_below hb1
  clear hb1 hc c0 c1 c2 c3 HMD HGL HX
  go_wp2_with fail
  go_loopw [40] (fun i wr => ∃ (j : Nat) (kv' : Value) (X' : List Nat), i = .int .i64 j ∧ j ≤ n ∧ Hid (Stx wr pb mb kv' X' (addAll (la + 1) E (l.take j)) la fl) ∧ Hid (Mid la (addAll (la + 1) E (l.take j)) (l.drop j)) ∧ Hid (Chg pb mb kv w wr) ∧ Hid (Kin w kv kv') ∧ Hid (Xin w X X')) (fun i _ => n - (intOf i).toNat)
  case atStart => exact ⟨0, kv, X, rfl, by omega, HX1.out, HM0.out, HC1.out, Kin.refl _ _, Xin.refl _ _⟩
  case round =>
    obtain ⟨j, kr, Xr, rfl, hj, hSt, hMi, hCh, hKi, hXi⟩ := hrel
    clear HX1 HC1 c2'
    by_cases hlt : j < n
    · obtain ⟨p, hp⟩ := some_at (show j < l.length by rw [HLN.out]; exact hlt)
      obtain ⟨Er, hEr⟩ : ∃ Er, addAll (la + 1) E (l.take j) = Er := ⟨_, rfl⟩
      rw [hEr] at hSt hMi
      obtain ⟨g, off, rfl, hgl, x0, x1, x2⟩ := sl_pair (w := wr) (ok := fun _ => True) ((HL.out.inb.step fun b hb => hCh.out.block b hb.2 hb.1.1 hb.1.2.1 hb.1.2.2).mono fun _ _ => trivial) hp
      have hmi := hMi.out
      rw [drop_at hp] at hmi
      obtain ⟨s1, s2⟩ := HSH.out p (List.mem_of_getElem? hp)
      have hgp := HG1.out p (List.mem_of_getElem? hp)
      have hcan := hmi.can (by omega) hgp
      have hnext := hmi.step (by omega) hgp (fun q hq => by
        have h2 := HG2.out.drop (i := j)
        rw [drop_at hp] at h2
        exact (List.pairwise_cons.1 h2).1 q hq)
      have hEn : addAll (la + 1) E (l.take (j + 1)) = addE (la + 1) Er p := by
        rw [List.take_add_one, hp, addAll, List.foldl_append]
        show addE (la + 1) (addAll (la + 1) E (l.take j)) p = _
        rw [hEr]
      have hElen : Er.length ≤ 100000 := by
        have h1 : (addAll (la + 1) E (l.take j)).length ≤ E.length + (l.take j).length := addAll_length HM0.out.rising _
        have h2 : E.length + l.length ≤ 100000 := HLE.out
        rw [hEr] at h1
        rw [List.length_take] at h1
        omega
      obtain ⟨ga, hga⟩ : ∃ ga, wr.heap.size = ga := ⟨_, rfl⟩
      have hba := (Below.refl wr.heap.size wr).alloc (Nat.le_refl _) (.cells #[.string p.key, .string p.val, .bool p.dead] 68)
      have HPa : Hid (Blk (wr.alloc (.cells #[.string p.key, .string p.val, .bool p.dead] 68)) ga #[.string p.key, .string p.val, .bool p.dead] 68) := by rw [← hga]; exact Blk.new _ _ _
      have HSa := Lib.hid (hSt.out.below hba)
      have HCa : Hid (Chg pb mb kv w (wr.alloc (.cells #[.string p.key, .string p.val, .bool p.dead] 68))) := hCh.out.trans hKi.out (Chg.of_below hba)
      have hga2 : ga < (wr.alloc (.cells #[.string p.key, .string p.val, .bool p.dead] 68)).heap.size := HPa.out.lt
      have HRE := Lib.hid hMi.out.rising
      have HCL := Lib.hid (chain_len (by omega) (by omega) hMi.out.chains p.key)
      have HEn := Lib.hid hEn
      have HNX := Lib.hid hnext
      have HCN := Lib.hid hcan
      have hsz := hba.size
      have hXga : Hid (∀ b ∈ Xr, b < ga) := by rw [← hga]; exact hSt.out.lt
      clear hmi hba hEn hnext hcan hEr hp hMi
      go_wp2_with fail
      obtain ⟨Wa, hWa⟩ : ∃ Wa, wr.alloc (.cells #[.string p.key, .string p.val, .bool p.dead] 68) = Wa := ⟨_, rfl⟩
      rw [hWa] at HPa HSa HCa hga2 hsz ⊢
      clear hWa x0 x1 x2
      have y0 := HPa.out.cell 0
      have y1 := HPa.out.cell 1
      have y2 := HPa.out.cell 2
      have c0 : Wa.cell? ⟨pb, 0, none⟩ = some (.map (some mb)) := HSa.out.blk.cell 0
      have c1 : Wa.cell? ⟨pb, 1, none⟩ = some kr := HSa.out.blk.cell 1
      have hpbW : pb < Wa.heap.size := HSa.out.lt _ HSa.out.inP
      have hlk : ∃ Ac nc cc, (∀ q, (Instr.lookup 70 (.map (some mb)) (.string p.key) true).run Try.prog (Wa.drewN q) = .ok (.tuple #[.slice Ac nc cc, .bool (hasK Er p.key)]) (Wa.drewN q)) ∧ Hid (Sl tVer Wa (· ∉ Xr) (.slice Ac nc cc) (chainOf Er p.key)) := by
        obtain ⟨V, hV, hC⟩ := HSa.out.map
        obtain ⟨A, n, c, h1, h2⟩ := look_at HRE.out hV hC p.key
        refine ⟨A, n, c, fun q => ?_, h2⟩
        have hbq := below_drewN (Below.refl Wa.heap.size Wa) q
        have := (hV.below hbq).look2 Try.underlying70 (zero61 _) (max_of s1)
        rw [h1, look_ch hV hC] at this
        exact this
      obtain ⟨Ac, nc, cc, hlk, HSC⟩ := hlk
      go_quiet (fail)
      obtain ⟨W1, hW1⟩ : ∃ W1, Wa.drewN nq = W1 := ⟨_, rfl⟩
      have hb1 : Below Wa.heap.size Wa W1 := by rw [← hW1]; exact below_drewN (Below.refl _ _) _
      rw [hW1]
      clear hW1 hlk y0 y1 y2 c0 c1
      have HS1 := Lib.hid (HSa.out.below hb1)
      have HP1 : Hid (Blk W1 ga #[.string p.key, .string p.val, .bool p.dead] 68) := HPa.out.below hb1 hga2
      have HC1 : Hid (Chg pb mb kv w W1) := HCa.out.trans hKi.out (Chg.of_below hb1)
      have HSC1 : Hid (Sl tVer W1 (· ∉ Xr) (.slice Ac nc cc) (chainOf Er p.key)) := HSC.out.below hb1
      clear hb1 HSa HPa HCa HSC
      cases hh : hasK Er p.key
      case' false =>
        go_wp2_with fail
        have HS2 := HS1
        obtain ⟨Ak, ck, hkr, -⟩ := HS1.out.keys.form
        obtain ⟨nk, hnk⟩ : ∃ nk, (Er.map (·.key)).length = nk := ⟨_, rfl⟩
        rw [hnk] at hkr
        have hnk2 : nk ≤ 100000 := by rw [← hnk, List.length_map]; exact hElen
        obtain ⟨ix, hix⟩ : ∃ ix, lowS (Er.map (·.key)) p.key = ix := ⟨_, rfl⟩
        have hixle : ix ≤ nk := by rw [← hix, ← hnk]; exact lowS_le _ _
        have hbs : Hid (∀ X, Below W1.heap.size W1 X → Calls Try.prog 39 #[kr, .string p.key] X fun e w' => e = .returned (.tuple #[.int .i64 (ix : Nat), .bool false]) ∧ Below X.heap.size X w') := fun X hX => by
          have h1 := bsearch_calls (Er.map (·.key)) Ak nk ck p.key X ((by have := HS1.out.keys.sl.below hX; rw [hkr] at this; exact this.mono fun _ _ => trivial)) (keys_rising HRE.out) (by omega)
          rw [hix, hasS_keys, hh, ← hkr] at h1
          exact h1
        have y0 := HP1.out.cell 0
        have y1 := HP1.out.cell 1
        have y2 := HP1.out.cell 2
        have c0 : W1.cell? ⟨pb, 0, none⟩ = some (.map (some mb)) := HS1.out.blk.cell 0
        have c1 : W1.cell? ⟨pb, 1, none⟩ = some kr := HS1.out.blk.cell 1
        have hpb1 : pb < W1.heap.size := HS1.out.lt _ HS1.out.inP
        have hga1 : ga < W1.heap.size := HP1.out.lt
        have hX0 := Lib.hid (Below.refl W1.heap.size W1)
        have HKR := Lib.hid hkr
        have hIX2 : Hid (ix ≤ (Er.map (·.key)).length) := by show ix ≤ _; rw [hnk]; exact hixle
        have HIXE := Lib.hid hix
        have HHH := Lib.hid hh
        clear hkr hnk hix hh
        refine wp_region_later (by kernel_rfl) (by kernel_rfl) ?_
        repeat (go_big_quiet_step (first | (go_at_call 39; exact calls_later (hbs.out _ (later_from hX0.out (Nat.le_refl _) _)))))
        refine wpQuiet_nil ?_
        rintro _ ⟨e, rfl⟩
        have hb2 := later_below e
        obtain ⟨W2, hW2⟩ : ∃ W2, later W1 e = W2 := ⟨_, rfl⟩
        rw [hW2] at hb2 ⊢
        clear hW2 y0 y1 y2 c0 c1 hbs hX0
        have HS2 := Lib.hid (HS1.out.below hb2)
        have HP2 : Hid (Blk W2 ga #[.string p.key, .string p.val, .bool p.dead] 68) := HP1.out.below hb2 hga1
        have HC2 : Hid (Chg pb mb kv w W2) := HC1.out.trans hKi.out (Chg.of_below hb2)
        have HSC2 : Hid (Sl tVer W2 (· ∉ Xr) (.slice Ac nc cc) (chainOf Er p.key)) := HSC1.out.below hb2
        clear hb2 HS1 HP1 HC1 HSC1
        go_wp2_with fail
        have y0 := HP2.out.cell 0
        have c1 : W2.cell? ⟨pb, 1, none⟩ = some kr := HS2.out.blk.cell 1
        have hpb2 : pb < W2.heap.size := HS2.out.lt _ HS2.out.inP
        have hga2 : ga < W2.heap.size := HP2.out.lt
        have hbW : Below W2.heap.size W2 W2 := Below.refl _ _
        have HNK := Lib.hid (show (Er.map (·.key)).length ≤ 100000 by rw [List.length_map]; exact hElen)
        have HIX : Hid (ix ≤ (Er.map (·.key)).length) := hIX2.out
        obtain ⟨vb, hvb⟩ : ∃ vb, W2.heap.size = vb := ⟨_, rfl⟩
        obtain ⟨Wv, hWv⟩ : ∃ Wv, (W2.alloc (.cells #[.string p.key] 9)).drew = Wv := ⟨_, rfl⟩
        have hbv : Below W2.heap.size W2 Wv := by rw [← hWv]; exact (hbW.alloc (Nat.le_refl _) _).drew
        have hBv : Blk Wv vb #[.string p.key] 9 := by rw [← hWv, ← hvb]; exact Blk.new W2 #[.string p.key] 9
        have hsv : Wv.heap.size = vb + 1 := by rw [← hWv, ← hvb]; show (W2.alloc _).heap.size = _; simp
        have hkl : ∀ b, kr.ownBlock = some b → b < vb := fun b e => by rw [← hvb]; exact HS2.out.lt _ (HS2.out.inK _ e)
        have hins : Hid (Calls Try.prog 40 #[kr, .int .i64 (ix : Nat), .slice (some ⟨vb, 0, none⟩) 1 1] Wv fun e w' => ∃ kq, e = .returned kq ∧ Own Ty.str w' 0 9 none_ kq ((Er.map (·.key)).take ix ++ p.key :: (Er.map (·.key)).drop ix) ∧ Wv.grownBy w' kr.ownBlock ∧
            (kq.ownBlock = kr.ownBlock ∨ kq.ownBlock = some Wv.heap.size) ∧ w'.cell? ⟨pb, 1, none⟩ = some kr ∧ w'.frozen? ⟨pb, 1, none⟩ = false) :=
          (insert_calls (Er.map (·.key)) kr p.key ix vb Wv (HS2.out.keys.below hbv) HIX.out hBv (fun e => by have := hkl _ e; omega) HNK.out).mono fun e w' ⟨kq, e1, e2, e3, e4⟩ => by
            have hblk : Blk w' pb #[.map (some mb), kr, .int .i64 la, .int .i64 fl] 73 := (e3.block pb (by omega) (fun e => HS2.out.nP e.symm)).trans (HS2.out.blk.below hbv hpb2)
            exact ⟨kq, e1, e2, e3, e4, hblk.cell 1, hblk.frozen 1⟩
        have c1v : Wv.cell? ⟨pb, 1, none⟩ = some kr := (HS2.out.blk.below hbv hpb2).cell 1
        rw [hvb] at hpb2 hga2
        go_region_law (first
          | (go_simp; go_at_call 40; refine hins.out.mono ?_; rintro e W5 ⟨kq, rfl, hO5, hG5, hX5, c5, f5⟩; obtain ⟨Aq, cq, hkq, -⟩ := hO5.form; obtain ⟨lq, hlq⟩ : ∃ k, ((Er.map (·.key)).take ix ++ p.key :: (Er.map (·.key)).drop ix).length = k := ⟨_, rfl⟩; rw [hlq] at hkq; subst hkq; clear hlq; have HO5 := Lib.hid hO5; have HG5 := Lib.hid hG5; have HX5 := Lib.hid hX5; clear hO5 hG5 hX5))
        all_goals
          obtain ⟨HR, HC3, HK3, HX3⟩ := rdy_ins (n := la + 1) HS2.out HRE.out HHH.out HSC2.out HP2.out hXga.out hbv HIXE.out HO5.out HG5.out HX5.out
          obtain ⟨kq, hkq⟩ : ∃ kq, Value.slice Aq lq cq = kq := ⟨_, rfl⟩
          rw [hkq] at HR HC3 HK3 HX3 ⊢
          obtain ⟨W3, hW3⟩ : ∃ W3, W5.setCell ⟨pb, 1, none⟩ kq = W3 := ⟨_, rfl⟩
          rw [hW3] at HR HC3 ⊢
          obtain ⟨Xq, hXq⟩ : ∃ Xq, kq.ownBlock.toList ++ Xr = Xq := ⟨_, rfl⟩
          rw [hXq] at HR HX3
          have HR := Lib.hid HR
          have HC3 : Hid (Chg pb mb kv w W3) := HC2.out.trans hKi.out HC3
          have HK3 : Hid (Kin w kv kq) := hKi.out.trans HK3 HC2.out.size
          have HX3 : Hid (Xin w X Xq) := hXi.out.trans HX3 HC2.out.size
          clear hkq hW3 hXq HO5 HG5 HX5 c5 f5 c1v hins hbv hBv hsv hkl hWv hvb HS2 HC2 HSC2 HP2 y0 c1 hbW HNK HIX hIX2 HIXE HHH HKR hpb2 hga2
      case' true =>
        have HR : Hid (Rdy W1 pb mb kr Xr Er p (la + 1) la fl ga Ac nc cc) := rdy_has HS1.out HRE.out hh HSC1.out HP1.out
        obtain ⟨W3, hW3⟩ : ∃ W3, W3 = W1 := ⟨_, rfl⟩
        obtain ⟨kq, hkq⟩ : ∃ kq, kq = kr := ⟨_, rfl⟩
        obtain ⟨Xq, hXq⟩ : ∃ Xq, Xq = Xr := ⟨_, rfl⟩
        subst hW3 hkq hXq
        have HC3 := HC1
        have HK3 := hKi
        have HX3 := hXi
        clear hh HS1 HP1 HC1 HSC1
      all_goals
        have y0 := HR.out.pa.cell 0
        have y1 := HR.out.pa.cell 1
        have y2 := HR.out.pa.cell 2
        have c0 : W3.cell? ⟨pb, 0, none⟩ = some (.map (some mb)) := HR.out.blk.cell 0
        have hpb3 : pb < W3.heap.size := HR.out.lt _ HR.out.inP
        have hga3 : ga < W3.heap.size := HR.out.pa.lt
        obtain ⟨V, hV, hC⟩ := HR.out.map
        have hVn : Hid (V.length < maxLen) := by
          have h1 := hC.keys.length_eq
          rw [List.length_map, List.length_map] at h1
          show V.length < maxLen
          unfold maxLen
          omega
        have HV := Lib.hid hV
        have HCh := Lib.hid hC
        have hput : Hid (∀ X, Below W3.heap.size W3 X → Calls Try.prog 41 #[.slice Ac nc cc, .agg #[.int .i64 (la + 1), .string p.val, .bool p.dead]] X fun e w' => ∃ A k c, e = .returned (.tuple #[.slice A k c, .bool true]) ∧
            Hid (Sl tVer w' (fun b => W3.heap.size ≤ b) (.slice A k c) (chainOf Er p.key ++ [verOf (la + 1) p])) ∧ Below W3.heap.size W3 w' ∧ w'.cell? ⟨pb, 0, none⟩ = some (.map (some mb)) ∧ w'.cell? ⟨ga, 0, none⟩ = some (.string p.key) ∧ w'.cell? ⟨ga, 1, none⟩ = some (.string p.val) ∧ w'.cell? ⟨ga, 2, none⟩ = some (.bool p.dead)) := fun X hX => by
          have hch := HR.out.chain.below hX
          refine (put_calls (chainOf Er p.key) (verOf (la + 1) p) Ac nc cc X (hch.mono fun _ _ => trivial) (by have := hch.length.1; have := HCL.out; omega)).mono fun e w' ⟨u, e1, e2, e3⟩ => ?_
          rw [HCN.out] at e1 e2
          rw [put_yes HCN.out] at e2
          obtain ⟨A, c, e4, -⟩ := e2.form
          have hbX := hX.trans (e3.mono hX.size)
          have hc' := (bcell hbX).1
          refine ⟨A, _, c, by rw [e1, e4], ?_, hbX, ?_, ?_, ?_, ?_⟩
          · rw [← e4]; exact e2.mono fun b hb => Nat.le_trans hX.size (hb rfl)
          · rw [hc' _ _ hpb3]; exact c0
          · rw [hc' _ _ hga3]; exact y0
          · rw [hc' _ _ hga3]; exact y1
          · rw [hc' _ _ hga3]; exact y2
        have hbW : Below W3.heap.size W3 W3 := Below.refl _ _
        clear hV hC
        go_wp2_with fail
        have hpm := HR.out.ne
        have hgm : Hid (∀ W7 W9 : World, Below W3.heap.size W3 W7 → W7.grownBy W9 (some mb) → W9.cell? ⟨pb, 0, none⟩ = some (.map (some mb)) ∧ W9.cell? ⟨ga, 0, none⟩ = some (.string p.key) ∧ W9.cell? ⟨ga, 1, none⟩ = some (.string p.val) ∧ W9.cell? ⟨ga, 2, none⟩ = some (.bool p.dead)) := fun W7 W9 h1 h2 => by
          have hP9 : Blk W9 pb #[.map (some mb), kq, .int .i64 la, .int .i64 fl] 73 := (h2.block pb (Nat.lt_of_lt_of_le hpb3 h1.size) (fun e => hpm (by injection e))).trans (HR.out.blk.below h1 hpb3)
          have hA9 : Blk W9 ga #[.string p.key, .string p.val, .bool p.dead] 68 := (h2.block ga (Nat.lt_of_lt_of_le hga3 h1.size) (fun e => by
            injection e with e
            obtain ⟨D, ⟨es, cl, h5, _⟩, _⟩ := HV.out
            have h6 := HR.out.pa
            unfold Blk at h6
            rw [e, h5] at h6
            cases h6)).trans (HR.out.pa.below h1 hga3)
          exact ⟨hP9.cell 0, hA9.cell 0, hA9.cell 1, hA9.cell 2⟩
        have hS : W3.cell? ⟨pb, 0, none⟩ = some (.map (some mb)) ∧ W3.cell? ⟨ga, 0, none⟩ = some (.string p.key) ∧ W3.cell? ⟨ga, 1, none⟩ = some (.string p.val) ∧ W3.cell? ⟨ga, 2, none⟩ = some (.bool p.dead) := ⟨c0, y0, y1, y2⟩
        clear c0 y0 y1 y2
        go_region_held3 (fun X => X.cell? ⟨pb, 0, none⟩ = some (.map (some mb)) ∧ X.cell? ⟨ga, 0, none⟩ = some (.string p.key) ∧ X.cell? ⟨ga, 1, none⟩ = some (.string p.val) ∧ X.cell? ⟨ga, 2, none⟩ = some (.bool p.dead)) ((first | exact hS9 | exact hS7 | exact hS))
          (first
          | (go_at_call 41; refine (hput.out _ ?_).mono ?_; (focus (repeat (first | with_reducible exact hbW | apply Below.drew))); rintro e W7 ⟨A7, k7, c7, rfl, hu7, hb7, hS7⟩; obtain ⟨W9, hrun, hM9, hG9, hs9⟩ := (HV.out.below hb7).put Try.underlying70 hVn.out (max_of s1) (.slice A7 k7 c7); have hS9 := hgm.out W7 W9 hb7 hG9; have HM9 := Lib.hid hM9; have HG9 := Lib.hid hG9; have HB7 := Lib.hid hb7; have hrun' : (Instr.mapUpdate 70 (.map (some mb)) (.string p.key) (.slice A7 k7 c7)).run Try.prog W7 = .ok () W9 := hrun; clear hrun hM9 hG9 hb7))
        all_goals
          obtain ⟨HS9, HC9⟩ := rdy_done HR.out HRE.out HV.out HCh.out HB7.out hu7.out HM9.out HG9.out
          have R1 : Hid (Stx W9 pb mb kq Xq (addAll (la + 1) E (l.take (j + 1))) la fl) := by show Stx _ _ _ _ _ _ _ _; rw [HEn.out]; exact HS9
          have R2 : Hid (Mid la (addAll (la + 1) E (l.take (j + 1))) (l.drop (j + 1))) := by show Mid _ _ _; rw [HEn.out]; exact HNX.out
          have R3 : Hid (Chg pb mb kv w W9) := HC3.out.trans HK3.out HC9
          clear HS9 HC9 HM9 HG9 HB7 hu7 hrun'
          go_wp2
          go_roundw
          case rel => exact ⟨j + 1, kq, Xq, by go_num, by omega, R1, R2, R3, HK3, HX3⟩
          case measure => simp [intOf]; omega
    · obtain rfl : j = n := by omega
      have hd : l.take j = l := List.take_of_length_le (by rw [HLN.out]; omega)
      rw [hd] at hSt
      have c2 : wr.cell? ⟨pb, 2, none⟩ = some (.int .i64 la) := hSt.out.blk.cell 2
      have f2 : wr.frozen? ⟨pb, 2, none⟩ = false := hSt.out.blk.frozen 2
      clear hd
      go_wp2
      go_ret
      have hS9 := hSt.out.other (l' := la + 1) (f' := fl) 2 (.int .i64 (la + 1)) rfl
      have hl9 : (addAll (la + 1) E l).length ≤ 100000 := by
        have h1 : (addAll (la + 1) E l).length ≤ E.length + l.length := addAll_length HM0.out.rising _
        have h2 : E.length + l.length ≤ 100000 := HLE.out
        omega
      exact ⟨rfl, kr, Xr, hS9.m HOK.out hl9 (by omega), hCh.out.trans hKi.out (Chg.of_grown (setC_grown _ _ _ _) fun b e => .inl (by injection e with e; exact e.symm)), hKi.out, hXi.out⟩
end Go.Proofs.Ytidfogcilegloaa
