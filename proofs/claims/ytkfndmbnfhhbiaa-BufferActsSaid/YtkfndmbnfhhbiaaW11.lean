import Derived.Test.YtkfndmbnfhhbiaaW10
import Derived.Test.YtkfndmbnfhhbiaaPure2
/-! BufferLays. -/
namespace Go.Proofs.Ytkfndmbnfhhbiaa
open Go.RowKit Go.Op

theorem sl_px {W : World} {ok : Nat → Prop} {u : Value} {m : List Pair} (h : Sl tPair W ok u m) (okE : Nat → Prop) : SlX tPair W okE u m := by
  obtain ⟨A, cap, cs, e, h1, h2, h3, h4⟩ := h
  exact ⟨A, cap, cs, e, h1, h2, by rw [cells_pair h3]; exact pair_cells _ _ _, h4.mono fun _ _ => trivial⟩
theorem rput_snd (l : List Pair) (p : Pair) : (rput l p).2 = l ∨ (rput l p).2 = put l p := by
  rcases rput_cases l p with ⟨_, h⟩ | ⟨_, h⟩
  · exact .inr h
  · exact .inl h

theorem found_step {out : List Pair} {k v : ByteArray} {m : Nat} {y : Pair} (hy : out[m]? = some y) :
    foundIn (out.take (m + 1)) k v = (foundIn (out.take m) k v || ((y.key.toList == k.toList) && (y.val.toList == v.toList) && !y.dead)) := by
  unfold foundIn
  rw [List.take_add_one, hy, List.any_append]
  simp

set_option maxHeartbeats 8000000 in
set_option maxRecDepth 100000 in
theorem lays_calls (l : List Pair) (A : Option Addr) (n c : Nat) (acts : List Pair) (B : Option Addr) (k d : Nat) (w : World) (hl : Sl tPair w (fun _ => True) (.slice A n c) l) (hs : Short l) (ha : Sl tPair w (fun _ => True) (.slice B k d) acts) (hsa : Short acts) :
    Calls Try.prog 5 #[.slice A n c, .slice B k d] w fun e w' => e = .returned (.bool true) ∧ Below w.heap.size w w' := by
  obtain ⟨hln, hcap, hcm⟩ := hl.length
  obtain ⟨hla, hcapa, hcma⟩ := ha.length
  have HL := Lib.hid hl
  have HA := Lib.hid ha
  have HSA := Lib.hid hsa
  have HSL := Lib.hid hs
  have HLI := Lib.hid (light_calls acts l B A k d n c w ha hl hsa hs)
  have HLN := Lib.hid hln
  have HLA := Lib.hid hla
  clear hl hs ha hsa hln hla
  go_enter Try.func5, Try.ntmps5
  go_wp2_with fail
  refine HLI.out.mono ?_
  rintro e w1 ⟨b, rfl, hb, hb1⟩
  have HB1 := Lib.hid hb1
  clear HLI
  cases b
  · clear hb hb1
    go_wp2_with fail
    refine (lives_calls _).mono ?_
    rintro e w2 ⟨rfl, hb2⟩
    have HB2 := Lib.hid (HB1.out.trans (hb2.mono HB1.out.size))
    clear hb2
    go_wp2
    go_ret
    exact ⟨rfl, HB2.out⟩
  · obtain ⟨hk150, hn150⟩ := hb rfl
    have HRI := Lib.hid (rises_calls l A n c w1 (HL.out.below hb1))
    clear hb hb1
    go_wp2_with fail
    refine HRI.out.mono ?_
    rintro e w2 ⟨b, rfl, hb, hb2⟩
    have HB2 := Lib.hid (HB1.out.trans (hb2.mono HB1.out.size))
    clear HRI hb2
    cases b
    · clear hb
      go_wp2_with fail
      refine (lives_calls _).mono ?_
      rintro e w3 ⟨rfl, hb3⟩
      have HB3 := Lib.hid (HB2.out.trans (hb3.mono HB2.out.size))
      clear hb3
      go_wp2
      go_ret
      exact ⟨rfl, HB3.out⟩
    · have HRL : Hid (Rising l) := hb.1 rfl
      clear hb
      go_wp2_with fail
      refine (new_calls w2).mono ?_
      rintro e w3 ⟨rfl, hB3, hb3⟩
      obtain ⟨z, hz⟩ : ∃ z, w2.heap.size = z := ⟨_, rfl⟩
      rw [hz] at hB3 ⊢
      have hwz : w.heap.size ≤ z := by rw [← hz]; exact HB2.out.size
      have hBuf := Lib.hid hB3
      have HBw := Lib.hid (HB2.out.trans (hb3.mono HB2.out.size))
      clear hB3 hb3 hz
      go_wp2
      go_loopw [32] (fun i wr => ∃ (j : Nat) (L : List Pair), i = .int .i64 j ∧ j ≤ k ∧ Hid (Buf wr (z + 1) z L) ∧ Hid (Below w.heap.size w wr)) (fun i _ => k - (intOf i).toNat)
      case atStart => exact ⟨0, [], rfl, by omega, hBuf, HBw⟩
      case round =>
        obtain ⟨j, L, rfl, hj, hBu, hBe⟩ := hrel
        clear hBuf HBw
        by_cases hlt : j < k
        · obtain ⟨a, ha⟩ := some_at (show j < acts.length by rw [HLA.out]; exact hlt)
          obtain ⟨g, off, rfl, hg, x0, x1, x2⟩ := sl_pair (HA.out.below hBe.out) ha
          obtain ⟨s1, s2⟩ := HSA.out a (List.mem_of_getElem? ha)
          have hba := (Below.refl wr.heap.size wr).alloc (Nat.le_refl _) (.cells #[.string a.key, .string a.val, .bool a.dead] 35)
          have HD := Lib.hid (do_calls (z + 1) z L a _ (hBu.out.below hba) s1)
          have HBA := Lib.hid (hBe.out.trans (hba.mono hBe.out.size))
          obtain ⟨r, hr⟩ : ∃ r, rput L (actP a) = r := ⟨_, rfl⟩
          rw [hr] at HD
          clear ha hba hr
          go_wp2_with fail
          refine HD.out.mono ?_
          rintro e w4 ⟨rfl, hB4, hg4⟩
          have HB4 := Lib.hid hB4
          have HBE : Hid (Below w.heap.size w w4) := HBA.out.grown hg4 HBA.out.size (fun k e => by cases e; exact hwz)
          clear hB4 hg4 HD HBA
          go_wp2
          go_roundw
          case rel => exact ⟨j + 1, r.2, by go_num, by omega, HB4, HBE⟩
          case measure => simp [intOf]; omega
        · have HW := Lib.hid (writes_calls (z + 1) z L wr hBu.out)
          have HRW := Lib.hid hBu.out.rising
          have hL64 := hBu.out.len
          go_wp2_with fail
          refine HW.out.mono ?_
          rintro e w4 ⟨v4, rfl, hs4, hb4⟩
          obtain ⟨A4, c4, rfl, -⟩ := hs4.form
          have HB4 : Hid (Buf w4 (z + 1) z L) := hBu.out.below hb4
          have HBE4 : Hid (Below w.heap.size w w4) := hBe.out.trans (hb4.mono hBe.out.size)
          have HS4 : Hid (Sl tPair w4 (fun _ => True) (.slice A4 L.length c4) L) := hs4.mono fun _ _ => trivial
          have HL4 : Hid (Sl tPair w4 (fun _ => True) (.slice A n c) l) := HL.out.below HBE4.out
          have HO := Lib.hid (overlay_calls l L A A4 n c L.length c4 w4 HL4.out HS4.out (by omega) (by omega))
          have hz4 : z + 1 < w4.heap.size := HB4.out.blk.lt
          clear HW hs4 hb4
          go_wp2_with fail
          refine HO.out.mono ?_
          rintro e w5 ⟨v5, rfl, hs5, hb5⟩
          obtain ⟨A5, c5, rfl, -⟩ := hs5.form
          have HB5 : Hid (Buf w5 (z + 1) z L) := HB4.out.below hb5
          have HBE5 : Hid (Below w.heap.size w w5) := HBE4.out.trans (hb5.mono HBE4.out.size)
          have HS5 : Hid (Sl tPair w5 (fun _ => True) (.slice A4 L.length c4) L) := HS4.out.below hb5
          have HO5 : Hid (Sl tPair w5 (fun _ => True) (.slice A5 (overlay l L).length c5) (overlay l L)) := hs5.mono fun _ _ => trivial
          have HR5 := Lib.hid (rises_calls (overlay l L) A5 _ c5 w5 HO5.out)
          have hol := overlay_length l L
          rw [HLN.out] at hol
          obtain ⟨q, hq⟩ : ∃ q, (overlay l L).length = q := ⟨_, rfl⟩
          rw [hq] at hol HO5 HR5 ⊢
          have HQ := Lib.hid hq
          clear HO hs5 hb5 HB4 HBE4 HS4 HL4 hq
          go_wp2_with fail
          refine HR5.out.mono ?_
          rintro e w6 ⟨b, rfl, hb, hb6⟩
          obtain rfl : b = true := hb.2 (overlay_rising HRL.out HRW.out)
          have HB6 : Hid (Buf w6 (z + 1) z L) := HB5.out.below hb6
          have HBE6 : Hid (Below w.heap.size w w6) := HBE5.out.trans (hb6.mono HBE5.out.size)
          have HS6 : Hid (Sl tPair w6 (fun _ => True) (.slice A4 L.length c4) L) := HS5.out.below hb6
          have HO6 : Hid (Sl tPair w6 (fun _ => True) (.slice A5 q c5) (overlay l L)) := HO5.out.below hb6
          have HR6 := Lib.hid (rises_calls L A4 _ c4 w6 HS6.out)
          clear HR5 hb hb6 HB5 HBE5 HS5 HO5
          go_wp2_with fail
          refine HR6.out.mono ?_
          rintro e w7 ⟨b, rfl, hb, hb7⟩
          obtain rfl : b = true := hb.2 HRW.out
          have HB7 : Hid (Buf w7 (z + 1) z L) := HB6.out.below hb7
          have HBE7 : Hid (Below w.heap.size w w7) := HBE6.out.trans (hb7.mono HBE6.out.size)
          have HS7 : Hid (Sl tPair w7 (fun _ => True) (.slice A4 L.length c4) L) := HS6.out.below hb7
          have HO7 : Hid (Sl tPair w7 (fun _ => True) (.slice A5 q c5) (overlay l L)) := HO6.out.below hb7
          have HL7 : Hid (Sl tPair w7 (fun _ => True) (.slice A n c) l) := HL.out.below HBE7.out
          clear HR6 hb hb7 HB6 HBE6 HS6 HO6
          have HE8 : Hid (Own tPair (w7.alloc (.cells #[] 52)) w7.heap.size 52 none_ (.slice (some ⟨w7.heap.size, 0, none⟩) 0 0) []) := Own.empty tPair w7 52 none_ (Nat.le_refl _)
          have hb8 := (Below.refl w7.heap.size w7).alloc (Nat.le_refl _) (.cells #[] 52)
          have HX8 := Lib.hid (sl_px (HL7.out.below hb8) (fun b => none_ b ∧ (Value.slice (some ⟨w7.heap.size, 0, none⟩) 0 0).ownBlock ≠ some b))
          have HB8 := Lib.hid hb8
          clear hb8
          go_wp2_with (first
            | (at_builtin; refine wpList_appSl (o := ⟨some 55, _, _, _, _, _⟩) (t := tPair) (w0 := w7) (l := []) (m := l) w7.heap.size rfl _ _ 23 52 _ 40 rfl Try.underlying23 info52 rfl (by decide) (by decide) rfl rfl HE8.out HX8.out HB8.out ?c2 ?c3 ?_; (case c2 => exact HB8.out.size); (case c3 => rw [List.length_nil, HLN.out]; omega); intro v9 w9 hO9 hB9 hG9 _; rw [List.nil_append] at hO9; have HO9 := Lib.hid hO9; have HB9 := Lib.hid hB9; have HX9 := Lib.hid (sl_px (HS7.out.below hB9) (fun b => none_ b ∧ v9.ownBlock ≠ some b)); clear hO9 hB9 hG9)
            | (at_builtin; refine wpList_appSl (o := ⟨some 57, _, _, _, _, _⟩) (t := tPair) (w0 := w7) (l := l) (m := L) w7.heap.size rfl _ _ 23 52 _ 40 rfl Try.underlying23 info52 rfl (by decide) (by decide) rfl rfl HO9.out HX9.out HB9.out ?d2 ?d3 ?_; (case d2 => exact HB9.out.size); (case d3 => rw [HLN.out]; omega); intro v10 w10 hO10 hB10 hG10 _; obtain ⟨A10, c10, rfl, -⟩ := hO10.form; obtain ⟨t10, ht10⟩ : ∃ t, (l ++ L).length = t := ⟨_, rfl⟩; rw [ht10] at hO10 ⊢; have HT10 := Lib.hid ht10; clear ht10; have HS10 := Lib.hid (hO10.sl.mono (ok' := fun _ => True) fun _ _ => trivial); have HB10 := Lib.hid hB10; clear hO10 hB10 hG10))
          have HBuf10 : Hid (Buf w10 (z + 1) z L) := HB7.out.kept (grown_of HB10.out none) (by simp) (by simp)
          have HBE10 : Hid (Below w.heap.size w w10) := HBE7.out.trans (HB10.out.mono HBE7.out.size)
          have HO10 : Hid (Sl tPair w10 (fun _ => True) (.slice A5 q c5) (overlay l L)) := HO7.out.below HB10.out
          have hT300 : t10 ≤ 300 := by
            have := HT10.out
            rw [List.length_append, HLN.out] at this
            omega
          clear HE8 HX8 HB8 HO9 HB9 HX9 HB7 HBE7 HS7 HO7 HL7 HB10 hBu hBe hj hlt
          go_loopw [59] (fun i wr => ∃ (j : Nat), i = .int .i64 j ∧ j ≤ t10 ∧ Hid (Buf wr (z + 1) z L) ∧ Hid (Sl tPair wr (fun _ => True) (.slice A10 t10 c10) (l ++ L)) ∧ Hid (Sl tPair wr (fun _ => True) (.slice A5 q c5) (overlay l L)) ∧ Hid (Below w.heap.size w wr)) (fun i _ => t10 - (intOf i).toNat)
          case atStart => exact ⟨0, rfl, by omega, HBuf10, HS10, HO10, HBE10⟩
          case round =>
            clear HBuf10 HS10 HO10 HBE10
            obtain ⟨i, rfl, hi, HBufR, HSR, HOR, HBER⟩ := hrel
            by_cases hlt : i < t10
            · obtain ⟨p, hp⟩ := some_at (show i < (l ++ L).length by rw [HT10.out]; exact hlt)
              have hpk : p.key.size ≤ maxLen := by
                rcases List.mem_append.1 (List.mem_of_getElem? hp) with h | h
                · exact max_of (HSL.out p h).1
                · exact HBufR.out.key_ok p h
              obtain ⟨g, off, rfl, hg, x0, x1, x2⟩ := sl_pair HSR.out hp
              obtain ⟨gp, hgp⟩ : ∃ gp, wr.heap.size = gp := ⟨_, rfl⟩
              have hba := (Below.refl wr.heap.size wr).alloc (Nat.le_refl _) (.cells #[.string p.key, .string p.val, .bool p.dead] 52)
              have HBA := Lib.hid hba
              have HPA : Hid (Blk (wr.alloc (.cells #[.string p.key, .string p.val, .bool p.dead] 52)) wr.heap.size #[.string p.key, .string p.val, .bool p.dead] 52) := Blk.new _ _ _
              clear hba
              go_wp2
              go_quiet (fail)
              obtain ⟨W1, hW1⟩ : ∃ W1, (wr.alloc (.cells #[.string p.key, .string p.val, .bool p.dead] 52)).drewN nq = W1 := ⟨_, rfl⟩
              have hP1 : Blk W1 wr.heap.size #[.string p.key, .string p.val, .bool p.dead] 52 := by rw [← hW1]; exact HPA.out.drewN _
              have hb1 : Below wr.heap.size wr W1 := by rw [← hW1]; exact below_drewN HBA.out _
              rw [hW1]
              clear hW1 x0 x1 x2
              have HGT := Lib.hid (get_calls_m (z + 1) z L p.key W1 (HBufR.out.below hb1) hpk)
              have y0 := hP1.cell 0
              rw [hgp] at y0
              have HB1' := Lib.hid hb1
              have HP1 := Lib.hid hP1
              clear hb1 hP1 HBA HPA
              go_wp2_with fail
              refine HGT.out.mono ?_
              clear HGT y0
              cases hf : findK L p.key with
              | none =>
                rintro e w12 ⟨rfl, hb12⟩
                simp only [Option.getD, Option.isSome, tyv, Pair.zero]
                go_wp2
                obtain ⟨WB, hWB⟩ : ∃ WB, w12.alloc (.cells #[.string ⟨#[]⟩, .string ⟨#[]⟩, .bool false] 52) = WB := ⟨_, rfl⟩
                have hbB : Below W1.heap.size W1 WB := by rw [← hWB]; exact hb12.alloc hb12.size _
                have hbR : Below wr.heap.size wr WB := HB1'.out.trans (hbB.mono HB1'.out.size)
                have HPB : Hid (Blk WB gp #[.string p.key, .string p.val, .bool p.dead] 52) := by rw [← hgp]; exact HP1.out.below hbB HP1.out.lt
                have HBufB : Hid (Buf WB (z + 1) z L) := HBufR.out.below hbR
                have HSB : Hid (Sl tPair WB (fun _ => True) (.slice (some ⟨g, off, none⟩) t10 c10) (l ++ L)) := HSR.out.below hbR
                have HOB : Hid (Sl tPair WB (fun _ => True) (.slice A5 q c5) (overlay l L)) := HOR.out.below hbR
                have HBEB : Hid (Below w.heap.size w WB) := HBER.out.trans (hbR.mono HBER.out.size)
                rw [hWB]
                clear hb12 hbB hbR hWB
                have hfe := found_eq HRL.out HRW.out (List.mem_of_getElem? hp)
                rw [hf] at hfe
                simp only [Option.getD] at hfe
                have HFE := Lib.hid hfe
                clear hfe hp hf
                go_wp2
                go_loopw [16, 81] (fun f i wi => ∃ (m : Nat), i = .int .i64 m ∧ m ≤ q ∧ f = .bool (foundIn ((overlay l L).take m) p.key p.val) ∧ Hid (Below WB.heap.size WB wi)) (fun _ i _ => q - (intOf i).toNat)
                case atStart => exact ⟨0, rfl, by omega, rfl, Below.refl _ _⟩
                case round =>
                  obtain ⟨m, rfl, hm, rfl, hBi⟩ := hrel
                  have hPi := HPB.out.below hBi.out HPB.out.lt
                  have z0 := hPi.cell 0
                  have hzi := hPi.lt
                  by_cases hltm : m < q
                  · obtain ⟨y, hy⟩ := some_at (show m < (overlay l L).length by rw [HQ.out]; exact hltm)
                    obtain ⟨g3, off3, rfl, hg3, u0, u1, u2⟩ := sl_pair (HOB.out.below hBi.out) hy
                    have hst := found_step (k := p.key) (v := p.val) hy
                    have hBn := Lib.hid (hBi.out.alloc hBi.out.size (.cells #[.string y.key, .string y.val, .bool y.dead] 52))
                    clear hy hPi
                    cases hf : foundIn ((overlay l L).take m) p.key p.val
                    · cases hk1 : y.key.toList == p.key.toList
                      · have HST : Hid (foundIn ((overlay l L).take (m + 1)) p.key p.val = false) := by show _ = _; rw [hst, hf, hk1]; rfl
                        clear hst hf
                        go_wp2
                        go_roundw
                        case rel => exact ⟨m + 1, by go_num, by omega, by rw [HST.out], hBn⟩
                        case measure => simp [intOf]; omega
                      · cases hv1 : y.val.toList == p.val.toList
                        · have HST : Hid (foundIn ((overlay l L).take (m + 1)) p.key p.val = false) := by show _ = _; rw [hst, hf, hk1, hv1]; rfl
                          clear hst hf
                          go_wp2
                          go_roundw
                          case rel => exact ⟨m + 1, by go_num, by omega, by rw [HST.out], hBn⟩
                          case measure => simp [intOf]; omega
                        · have HST : Hid (foundIn ((overlay l L).take (m + 1)) p.key p.val = !y.dead) := by show _ = _; rw [hst, hf, hk1, hv1]; simp
                          clear hst hf
                          go_wp2
                          go_roundw
                          case rel => exact ⟨m + 1, by go_num, by omega, by rw [HST.out], hBn⟩
                          case measure => simp [intOf]; omega
                    · have HST : Hid (foundIn ((overlay l L).take (m + 1)) p.key p.val = true) := by show _ = _; rw [hst, hf]; rfl
                      clear hst hf
                      go_wp2
                      go_roundw
                      case rel => exact ⟨m + 1, by go_num, by omega, by rw [HST.out], hBn⟩
                      case measure => simp [intOf]; omega
                  · have hfin : foundIn ((overlay l L).take m) p.key p.val = !p.dead := by
                      rw [List.take_of_length_le (by rw [HQ.out]; omega)]; exact HFE.out
                    rw [hfin]
                    have HBz : Hid (Buf wr (z + 1) z L) := HBufB.out.below hBi.out
                    have HSz : Hid (Sl tPair wr (fun _ => True) (.slice (some ⟨g, off, none⟩) t10 c10) (l ++ L)) := HSB.out.below hBi.out
                    have HOz : Hid (Sl tPair wr (fun _ => True) (.slice A5 q c5) (overlay l L)) := HOB.out.below hBi.out
                    have HBEz : Hid (Below w.heap.size w wr) := HBEB.out.trans (hBi.out.mono HBEB.out.size)
                    clear hfin hPi
                    cases hrd : p.dead
                    · go_wp2
                      go_roundw
                      case rel => exact ⟨i + 1, by go_num, by omega, HBz, HSz, HOz, HBEz⟩
                      case measure => simp [intOf]; omega
                    · go_wp2
                      go_roundw
                      case rel => exact ⟨i + 1, by go_num, by omega, HBz, HSz, HOz, HBEz⟩
                      case measure => simp [intOf]; omega
              | some r =>
                rintro e w12 ⟨rfl, hb12⟩
                simp only [Option.getD, Option.isSome, tyv]
                have HPR : Hid (Blk (w12.alloc (.cells #[.string r.key, .string r.val, .bool r.dead] 52)) w12.heap.size #[.string r.key, .string r.val, .bool r.dead] 52) := Blk.new _ _ _
                go_wp2
                go_quiet (fail)
                obtain ⟨WB, hWB⟩ : ∃ WB, (w12.alloc (.cells #[.string r.key, .string r.val, .bool r.dead] 52)).drewN nq = WB := ⟨_, rfl⟩
                have hbB : Below W1.heap.size W1 WB := by rw [← hWB]; exact below_drewN (hb12.alloc hb12.size _) _
                have hbR : Below wr.heap.size wr WB := HB1'.out.trans (hbB.mono HB1'.out.size)
                have HPB : Hid (Blk WB gp #[.string p.key, .string p.val, .bool p.dead] 52) := by rw [← hgp]; exact HP1.out.below hbB HP1.out.lt
                have HBufB : Hid (Buf WB (z + 1) z L) := HBufR.out.below hbR
                have HSB : Hid (Sl tPair WB (fun _ => True) (.slice (some ⟨g, off, none⟩) t10 c10) (l ++ L)) := HSR.out.below hbR
                have HOB : Hid (Sl tPair WB (fun _ => True) (.slice A5 q c5) (overlay l L)) := HOR.out.below hbR
                have HBEB : Hid (Below w.heap.size w WB) := HBER.out.trans (hbR.mono HBER.out.size)
                rw [hWB]
                clear hb12 hbB hbR hWB HPR
                have hfe := found_eq HRL.out HRW.out (List.mem_of_getElem? hp)
                rw [hf] at hfe
                simp only [Option.getD] at hfe
                have HFE := Lib.hid hfe
                clear hfe hp hf
                go_wp2
                go_loopw [16, 81] (fun f i wi => ∃ (m : Nat), i = .int .i64 m ∧ m ≤ q ∧ f = .bool (foundIn ((overlay l L).take m) p.key r.val) ∧ Hid (Below WB.heap.size WB wi)) (fun _ i _ => q - (intOf i).toNat)
                case atStart => exact ⟨0, rfl, by omega, rfl, Below.refl _ _⟩
                case round =>
                  obtain ⟨m, rfl, hm, rfl, hBi⟩ := hrel
                  have hPi := HPB.out.below hBi.out HPB.out.lt
                  have z0 := hPi.cell 0
                  have hzi := hPi.lt
                  by_cases hltm : m < q
                  · obtain ⟨y, hy⟩ := some_at (show m < (overlay l L).length by rw [HQ.out]; exact hltm)
                    obtain ⟨g3, off3, rfl, hg3, u0, u1, u2⟩ := sl_pair (HOB.out.below hBi.out) hy
                    have hst := found_step (k := p.key) (v := r.val) hy
                    have hBn := Lib.hid (hBi.out.alloc hBi.out.size (.cells #[.string y.key, .string y.val, .bool y.dead] 52))
                    clear hy hPi
                    cases hf : foundIn ((overlay l L).take m) p.key r.val
                    · cases hk1 : y.key.toList == p.key.toList
                      · have HST : Hid (foundIn ((overlay l L).take (m + 1)) p.key r.val = false) := by show _ = _; rw [hst, hf, hk1]; rfl
                        clear hst hf
                        go_wp2
                        go_roundw
                        case rel => exact ⟨m + 1, by go_num, by omega, by rw [HST.out], hBn⟩
                        case measure => simp [intOf]; omega
                      · cases hv1 : y.val.toList == r.val.toList
                        · have HST : Hid (foundIn ((overlay l L).take (m + 1)) p.key r.val = false) := by show _ = _; rw [hst, hf, hk1, hv1]; rfl
                          clear hst hf
                          go_wp2
                          go_roundw
                          case rel => exact ⟨m + 1, by go_num, by omega, by rw [HST.out], hBn⟩
                          case measure => simp [intOf]; omega
                        · have HST : Hid (foundIn ((overlay l L).take (m + 1)) p.key r.val = !y.dead) := by show _ = _; rw [hst, hf, hk1, hv1]; simp
                          clear hst hf
                          go_wp2
                          go_roundw
                          case rel => exact ⟨m + 1, by go_num, by omega, by rw [HST.out], hBn⟩
                          case measure => simp [intOf]; omega
                    · have HST : Hid (foundIn ((overlay l L).take (m + 1)) p.key r.val = true) := by show _ = _; rw [hst, hf]; rfl
                      clear hst hf
                      go_wp2
                      go_roundw
                      case rel => exact ⟨m + 1, by go_num, by omega, by rw [HST.out], hBn⟩
                      case measure => simp [intOf]; omega
                  · have hfin : foundIn ((overlay l L).take m) p.key r.val = !r.dead := by
                      rw [List.take_of_length_le (by rw [HQ.out]; omega)]; exact HFE.out
                    rw [hfin]
                    have HBz : Hid (Buf wr (z + 1) z L) := HBufB.out.below hBi.out
                    have HSz : Hid (Sl tPair wr (fun _ => True) (.slice (some ⟨g, off, none⟩) t10 c10) (l ++ L)) := HSB.out.below hBi.out
                    have HOz : Hid (Sl tPair wr (fun _ => True) (.slice A5 q c5) (overlay l L)) := HOB.out.below hBi.out
                    have HBEz : Hid (Below w.heap.size w wr) := HBEB.out.trans (hBi.out.mono HBEB.out.size)
                    clear hfin hPi
                    cases hrd : r.dead
                    · go_wp2
                      go_roundw
                      case rel => exact ⟨i + 1, by go_num, by omega, HBz, HSz, HOz, HBEz⟩
                      case measure => simp [intOf]; omega
                    · go_wp2
                      go_roundw
                      case rel => exact ⟨i + 1, by go_num, by omega, HBz, HSz, HOz, HBEz⟩
                      case measure => simp [intOf]; omega
            · have HLV := Lib.hid (lives_calls wr)
              have hle : ((q : Int) ≤ (n : Int) + (L.length : Int)) := by omega
              go_wp2_with fail
              refine HLV.out.mono ?_
              rintro e w12 ⟨rfl, hb12⟩
              have HBz := Lib.hid (HBER.out.trans (hb12.mono HBER.out.size))
              clear hb12
              go_wp2
              go_ret
              exact ⟨rfl, HBz.out⟩
end Go.Proofs.Ytkfndmbnfhhbiaa
