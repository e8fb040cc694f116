import Derived.Test.YtnleldogmogkgaaW18
/-! StoreNone. -/
namespace Go.Proofs.Ytnleldogmogkgaa
open Go.RowKit Go.Op

theorem one_act {W : World} {g : Nat} {a : SAct} {P : Option Addr} {np cp : Nat} (h : Blk W g #[.int .i64 a.kind, .int .i64 a.n, .int .i64 a.most, .slice P np cp, .string a.fr, .string a.to] 25) (hs : Sl tPair W (fun _ => True) (.slice P np cp) a.l) : Sl tAct W (fun _ => True) (.slice (some ⟨g, 0, none⟩) 1 1) [a] :=
  ⟨_, 1, [.int .i64 a.kind, .int .i64 a.n, .int .i64 a.most, .slice P np cp, .string a.fr, .string a.to], rfl, Nat.le_refl _, ⟨by omega, fun h => by cases h⟩,
    Cells.one ⟨[_], _, rfl, rfl, [_], _, rfl, rfl, [_], _, rfl, rfl, [_], _, rfl, ⟨_, rfl, hs⟩, [_], _, rfl, rfl, rfl⟩, .inr ⟨g, 0, rfl, trivial, fun j u hj => by rw [h.cell (0 + j)]; simpa using hj⟩⟩

set_option maxHeartbeats 4000000 in
set_option maxRecDepth 100000 in
theorem none_calls (a : SAct) (P : Option Addr) (np cp : Nat) (w : World) (hp : Sl tPair w (fun _ => True) (.slice P np cp) a.l) (ho : ActOk a) :
    Calls Try.prog 9 #[.agg #[.int .i64 a.kind, .int .i64 a.n, .int .i64 a.most, .slice P np cp, .string a.fr, .string a.to]] w fun e w' => e = .returned (.bool true) ∧ Below w.heap.size w w' := by
  obtain ⟨z, hz⟩ : ∃ z, w.heap.size = z := ⟨_, rfl⟩
  obtain ⟨C, hC⟩ : ∃ C, #[Value.int .i64 a.kind, .int .i64 a.n, .int .i64 a.most, .slice P np cp, .string a.fr, .string a.to] = C := ⟨_, rfl⟩
  have hb1 := (Below.refl w.heap.size w).alloc (Nat.le_refl _) (.cells C 25)
  have HA1 : Hid (Blk (w.alloc (.cells C 25)) z C 25) := by rw [← hz]; exact Blk.new _ _ _
  have hb2 := hb1.alloc (by simp) (.cells C 25)
  have hG := blk_new2 w (.cells C 25) C 25
  rw [hz] at hG
  have HA2 : Hid (Blk ((w.alloc (.cells C 25)).alloc (.cells C 25)) z C 25) := HA1.out.alloc _
  have hsl : Sl tAct ((w.alloc (.cells C 25)).alloc (.cells C 25)) (fun _ => True) (.slice (some ⟨z + 1, 0, none⟩) 1 1) [a] := one_act (by rw [hC]; exact hG) (hp.below hb2)
  have HLI := Lib.hid (light_calls [a] (some ⟨z + 1, 0, none⟩) 1 1 _ hsl (by intro x hx; rw [List.mem_singleton.1 hx]; exact ho))
  have HB2 : Hid (Below z w ((w.alloc (.cells C 25)).alloc (.cells C 25))) := by rw [← hz]; exact hb2
  have HO := Lib.hid ho
  rw [← hC] at HA1 HA2 HB2 HLI
  clear hp ho hsl hG hb1 hb2 HA1 hC
  go_enter Try.func9, Try.ntmps9
  go_wp2_with fail
  refine HLI.out.mono ?_
  rintro e w1 ⟨b, rfl, -, hb1⟩
  have HB1 : Hid (Below z w w1) := HB2.out.trans (hb1.mono (by simp; omega))
  have HA3 := Lib.hid (HA2.out.below hb1 HA2.out.lt)
  have hz1 : z < w1.heap.size := HA3.out.lt
  clear HLI hb1 HB2 HA2
  cases b
  · go_wp2_with fail
    refine (lives_calls _).mono ?_
    rintro e w2 ⟨rfl, hb2⟩
    have HB2 := Lib.hid (HB1.out.trans (hb2.mono (by omega)))
    clear hb2
    go_wp2
    go_ret
    exact ⟨rfl, by rw [hz]; exact HB2.out⟩
  · obtain ⟨zb, hzb⟩ : ∃ zb, w1.heap.size = zb := ⟨_, rfl⟩
    have hba := (Below.refl w1.heap.size w1).alloc (Nat.le_refl _) (.cells #[.map none, .slice none 0 0, .int .i64 0, .int .i64 0] 57)
    have HZ : Hid (Blk (w1.alloc (.cells #[.map none, .slice none 0 0, .int .i64 0, .int .i64 0] 57)) zb #[.map none, .slice none 0 0, .int .i64 0, .int .i64 0] 57) := by rw [← hzb]; exact Blk.new _ _ _
    have HA5 := Lib.hid (HA3.out.alloc (.cells #[.map none, .slice none 0 0, .int .i64 0, .int .i64 0] 57))
    have HB3 : Hid (Below z w (w1.alloc (.cells #[.map none, .slice none 0 0, .int .i64 0, .int .i64 0] 57))) := HB1.out.alloc (by omega) _
    have i0 : ∀ W, (Instr.index 58 (.agg #[.pointer none, .pointer (some ⟨zb, 0, none⟩)]) (.int .i64 0)).run Try.prog W = .ok (.pointer none) W := fun _ => by kernel_rfl
    have i1 : ∀ W, (Instr.index 58 (.agg #[.pointer none, .pointer (some ⟨zb, 0, none⟩)]) (.int .i64 1)).run Try.prog W = .ok (.pointer (some ⟨zb, 0, none⟩)) W := fun _ => by kernel_rfl
    clear hba HA3 HB1
    go_wp2
    go_loopw [16] (fun i wr => ∃ j : Nat, i = .int .i64 j ∧ j ≤ 2 ∧ Hid (Blk wr zb #[.map none, .slice none 0 0, .int .i64 0, .int .i64 0] 57) ∧ Hid (Blk wr z #[.int .i64 a.kind, .int .i64 a.n, .int .i64 a.most, .slice P np cp, .string a.fr, .string a.to] 25) ∧ Hid (Below z w wr)) (fun i _ => 2 - (intOf i).toNat)
    case atStart => exact ⟨0, rfl, by omega, HZ, HA5, HB3⟩
    case round =>
      obtain ⟨j, rfl, hj, HZr, HAr, HBr⟩ := hrel
      clear HZ HA5 HB3
      have hround : j = 2 ∨ ∃ o : Option Addr, j < 2 ∧ NoS wr o ∧ ∀ W, (Instr.index 58 (.agg #[.pointer none, .pointer (some ⟨zb, 0, none⟩)]) (.int .i64 (j : Int))).run Try.prog W = .ok (.pointer o) W := by
        rcases (by omega : j = 0 ∨ j = 1 ∨ j = 2) with rfl | rfl | rfl
        · exact .inr ⟨none, by omega, .inl rfl, i0⟩
        · exact .inr ⟨some ⟨zb, 0, none⟩, by omega, .inr ⟨zb, rfl, HZr.out⟩, i1⟩
        · exact .inl rfl
      rcases hround with rfl | ⟨o, hj2, hNo, hix⟩
      · have HV := Lib.hid (lives_calls wr)
        go_wp2_with fail
        refine HV.out.mono ?_
        rintro e w3 ⟨rfl, hb3⟩
        have HBz := Lib.hid (HBr.out.trans (hb3.mono (by rw [← hz]; exact HBr.out.size)))
        clear hb3
        go_wp2
        go_ret
        exact ⟨rfl, by rw [hz]; exact HBz.out⟩
      · have HN : Hid (∀ W, Below wr.heap.size wr W → NoS W o) := fun W h => hNo.below h
        have HAW : Hid (∀ W, Below wr.heap.size wr W → W.cell? ⟨z, 1, none⟩ = some (.int .i64 a.n) ∧ W.cell? ⟨z, 2, none⟩ = some (.int .i64 a.most) ∧ W.cell? ⟨z, 3, none⟩ = some (.slice P np cp) ∧ W.cell? ⟨z, 4, none⟩ = some (.string a.fr) ∧ W.cell? ⟨z, 5, none⟩ = some (.string a.to)) := fun W h =>
          have hB := HAr.out.below h HAr.out.lt
          ⟨hB.cell 1, hB.cell 2, hB.cell 3, hB.cell 4, hB.cell 5⟩
        have HX := Lib.hid (Below.refl wr.heap.size wr)
        have hzr : z < wr.heap.size := HAr.out.lt
        have hG := Lib.hid (noget_calls o a.fr a.n wr hNo)
        obtain ⟨y1, y2, y3, y4, y5⟩ := HAW.out _ HX.out
        clear hNo i0 i1
        go_wp2_with fail
        refine hG.out.mono ?_
        rintro e w3 ⟨rfl, hb3⟩
        have HX3 := Lib.hid (HX.out.trans (hb3.mono HX.out.size))
        obtain ⟨y1, y2, y3, y4, y5⟩ := HAW.out _ HX3.out
        have hC := Lib.hid (noscan_calls o a.fr a.to a.n a.most w3 (HN.out _ HX3.out))
        clear hb3 hG HX
        go_wp2_with fail
        refine hC.out.mono ?_
        rintro e w4 ⟨rfl, hb4⟩
        have HX4 := Lib.hid (HX3.out.trans (hb4.mono HX3.out.size))
        obtain ⟨y1, y2, y3, y4, y5⟩ := HAW.out _ HX4.out
        have hC := Lib.hid (noinstall_calls o a.n P np cp w4 (HN.out _ HX4.out))
        clear hb4 HX3
        go_wp2_with fail
        refine hC.out.mono ?_
        rintro e w5 ⟨rfl, hb5⟩
        have HX5 := Lib.hid (HX4.out.trans (hb5.mono HX4.out.size))
        obtain ⟨y1, y2, y3, y4, y5⟩ := HAW.out _ HX5.out
        have hC := Lib.hid (nocoll_calls o a.n w5 (HN.out _ HX5.out))
        clear hb5 HX4
        go_wp2_with fail
        refine hC.out.mono ?_
        rintro e w6 ⟨rfl, hb6⟩
        have HX6 := Lib.hid (HX5.out.trans (hb6.mono HX5.out.size))
        obtain ⟨y1, y2, y3, y4, y5⟩ := HAW.out _ HX6.out
        have hN6 := Lib.hid (HN.out _ HX6.out)
        clear hb6 HX5 hC
        go_wp2_with fail
        refine (nolast_calls o w6 hN6.out).mono ?_
        rintro e w7 ⟨rfl, rfl⟩
        go_wp2_with fail
        refine (nofloor_calls o w6 hN6.out).mono ?_
        rintro e w7 ⟨rfl, rfl⟩
        go_wp2_with fail
        refine (novers_calls o w6 hN6.out).mono ?_
        rintro e w7 ⟨rfl, rfl⟩
        go_wp2_with fail
        refine (nowrote_calls o a.fr a.n w6 hN6.out).mono ?_
        rintro e w7 ⟨rfl, rfl⟩
        have hC := Lib.hid (nowithin_calls o a.fr a.to a.n w6 hN6.out)
        go_wp2_with fail
        refine hC.out.mono ?_
        rintro e w7 ⟨rfl, hb7⟩
        have HX7 := Lib.hid (HX6.out.trans (hb7.mono HX6.out.size))
        have hN7 := Lib.hid (HN.out _ HX7.out)
        clear hb7 HX6 hC hN6 y1 y2 y3 y4 y5
        go_wp2_with fail
        refine (nocopy_calls o w7 hN7.out).mono ?_
        rintro e w8 ⟨rfl, rfl⟩
        have R1 : Hid (Blk w7 zb #[.map none, .slice none 0 0, .int .i64 0, .int .i64 0] 57) := HZr.out.below HX7.out HZr.out.lt
        have R2 : Hid (Blk w7 z #[.int .i64 a.kind, .int .i64 a.n, .int .i64 a.most, .slice P np cp, .string a.fr, .string a.to] 25) := HAr.out.below HX7.out HAr.out.lt
        have R3 : Hid (Below z w w7) := HBr.out.trans (HX7.out.mono (by omega))
        clear HX7 hN7
        go_wp2
        go_roundw
        case rel => exact ⟨j + 1, by go_num, by omega, R1, R2, R3⟩
        case measure => simp [intOf]; omega
end Go.Proofs.Ytnleldogmogkgaa
