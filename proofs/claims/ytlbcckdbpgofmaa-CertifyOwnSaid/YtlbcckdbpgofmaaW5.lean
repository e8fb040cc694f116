import Derived.Test.YtlbcckdbpgofmaaW4
/-! within, Wrote and Touches. -/
namespace Go.Proofs.Ytlbcckdbpgofmaa
open Go.RowKit Go.Op

set_option maxHeartbeats 2000000 in
theorem within_calls (s sn : Int) (st : Bool) (R : Option Addr) (nr cr : Nat) (W : Option Addr) (nw cw : Nat) (l : List Pair) (lo : ByteArray) (q : ByteArray → Bool) (F : Nat) (caps : Array Value) (w : World) (hl : Sl tPair w (fun _ => True) (.slice W nw cw) l) (hn : nw ≤ 4611686018427387904)
    (hcf : ∀ (x : Value) (W : World), (callFunc F (#[x] ++ caps)).run Try.prog W = .ok (.enter F (#[x] ++ caps)) W)
    (hF : ∀ (k : ByteArray) (W : World), Below w.heap.size w W → Calls Try.prog F (#[.string k] ++ caps) W fun e W' => e = .returned (.bool (q k)) ∧ Below W.heap.size W W')
    (h1 : ∀ x : ByteArray, bytesLess x.toList lo.toList = true → q x = false)
    (h2 : ∀ x y : ByteArray, bytesLess x.toList lo.toList = false → q x = false → bytesLess y.toList x.toList = false → q y = false) :
    Calls Try.prog 33 #[.agg #[.int .i64 s, .int .i64 sn, .bool st, .slice R nr cr, .slice W nw cw], .func (.func F) #[] caps, .string lo] w fun e w' => e = .returned (.bool (l.any fun p => q p.key)) ∧ Below w.heap.size w w' := by
  obtain ⟨hln, hcap, hm⟩ := hl.length
  have hb0 : Below w.heap.size w ((w.alloc (.cells #[.int .i64 s, .int .i64 sn, .bool st, .slice R nr cr, .slice W nw cw] 25)).alloc (.cells #[.func (.func F) #[] caps] 54)) := ((Below.refl _ _).alloc (Nat.le_refl _) _).alloc (by simp) _
  have HBr := Lib.hid ((Blk.new w #[.int .i64 s, .int .i64 sn, .bool st, .slice R nr cr, .slice W nw cw] 25).alloc (.cells #[.func (.func F) #[] caps] 54))
  have HBf : Hid (Blk ((w.alloc (.cells #[.int .i64 s, .int .i64 sn, .bool st, .slice R nr cr, .slice W nw cw] 25)).alloc (.cells #[.func (.func F) #[] caps] 54)) (w.heap.size + 1) #[.func (.func F) #[] caps] 54) := by
    have := Blk.new (w.alloc (.cells #[.int .i64 s, .int .i64 sn, .bool st, .slice R nr cr, .slice W nw cw] 25)) #[.func (.func F) #[] caps] 54
    rwa [show (w.alloc (.cells #[.int .i64 s, .int .i64 sn, .bool st, .slice R nr cr, .slice W nw cw] 25)).heap.size = w.heap.size + 1 by simp] at this
  have HS : Hid (((w.alloc (.cells #[.int .i64 s, .int .i64 sn, .bool st, .slice R nr cr, .slice W nw cw] 25)).alloc (.cells #[.func (.func F) #[] caps] 54)).heap.size = w.heap.size + 2) := by show _ = _; simp
  have H := Lib.hid hl
  have HB := Lib.hid hb0
  have HF := Lib.hid hF
  have HH1 := Lib.hid h1
  have HH2 := Lib.hid h2
  clear hl hb0 hF h1 h2
  have HX := Lib.hid (Below.refl ((w.alloc (.cells #[.int .i64 s, .int .i64 sn, .bool st, .slice R nr cr, .slice W nw cw] 25)).alloc (.cells #[.func (.func F) #[] caps] 54)).heap.size ((w.alloc (.cells #[.int .i64 s, .int .i64 sn, .bool st, .slice R nr cr, .slice W nw cw] 25)).alloc (.cells #[.func (.func F) #[] caps] 54)))
  cases hr : rises l
  · have hri := Lib.hid (rises_calls s sn st R nr cr W nw cw l _ (H.out.below HB.out))
    rw [hr] at hri
    clear hr
    go_enter Try.func33, Try.ntmps33
    go_wp2_with fail
    generalize (w.alloc (.cells #[.int .i64 s, .int .i64 sn, .bool st, .slice R nr cr, .slice W nw cw] 25)).alloc (.cells #[.func (.func F) #[] caps] 54) = w0 at *
    refine hri.out.mono ?_
    rintro e w1 ⟨rfl, hb1⟩
    have hB1 := Lib.hid (HBr.out.below hb1 HBr.out.lt)
    have hf1 := HBf.out.below hb1 HBf.out.lt
    have c4 : w1.cell? ⟨w.heap.size, 4, none⟩ = some (.slice W nw cw) := hB1.out.cell 4
    have hl1 : w.heap.size < w1.heap.size := hB1.out.lt
    have hW1 := HB.out.trans (hb1.mono HB.out.size)
    have HA := Lib.hid (any_pairs (fun p => q p.key) 41 #[.pointer (some ⟨w.heap.size + 1, 0, none⟩)] l W nw cw w1 (H.out.below hW1) (fun _ _ => by rfl) (fun p W' _ hW' =>
      in_test q F caps (w.heap.size + 1) p W' (hf1.below hW' hf1.lt |>.cell 0) hcf (fun W'' hW'' => HF.out p.key W'' (hW1.trans (((hW'.trans (hW''.mono hW'.size))).mono hW1.size))) (hf1.below hW' hf1.lt).lt))
    clear hf1 hB1 hb1
    go_wp2_with fail
    refine HA.out.mono ?_
    rintro e w2 ⟨rfl, hb2⟩
    go_wp2
    go_ret
    exact ⟨rfl, hW1.trans (hb2.mono hW1.size)⟩
  · have hri := Lib.hid (rises_calls s sn st R nr cr W nw cw l _ (H.out.below HB.out))
    rw [hr] at hri
    have HR := Lib.hid hr
    clear hr
    go_enter Try.func33, Try.ntmps33
    go_wp2_with fail
    generalize (w.alloc (.cells #[.int .i64 s, .int .i64 sn, .bool st, .slice R nr cr, .slice W nw cw] 25)).alloc (.cells #[.func (.func F) #[] caps] 54) = w0 at *
    refine hri.out.mono ?_
    rintro e w1 ⟨rfl, hb1⟩
    have hB1 := HBr.out.below hb1 HBr.out.lt
    have c0 : w1.cell? ⟨w.heap.size, 0, none⟩ = some (.int .i64 s) := hB1.cell 0
    have c1 : w1.cell? ⟨w.heap.size, 1, none⟩ = some (.int .i64 sn) := hB1.cell 1
    have c2 : w1.cell? ⟨w.heap.size, 2, none⟩ = some (.bool st) := hB1.cell 2
    have c3 : w1.cell? ⟨w.heap.size, 3, none⟩ = some (.slice R nr cr) := hB1.cell 3
    have c4 : w1.cell? ⟨w.heap.size, 4, none⟩ = some (.slice W nw cw) := hB1.cell 4
    have hl1 : w.heap.size < w1.heap.size := hB1.lt
    have hf1 := HBf.out.below hb1 HBf.out.lt
    have hW1 := HB.out.trans (hb1.mono HB.out.size)
    have HB1 := Lib.hid hB1
    have HF1 := Lib.hid hf1
    clear hB1 hf1 hb1
    go_wp2_with fail
    refine (from_calls s sn st R nr cr W nw cw l lo _ (H.out.below hW1) HR.out hn).mono ?_
    rintro e w2 ⟨r, rfl, hrn, hlo, hhi, hb2⟩
    have HLO := Lib.hid hlo
    have HHI := Lib.hid hhi
    clear hlo hhi c0 c1 c2 c3 c4 hl1
    have hB2 := HB1.out.below hb2 HB1.out.lt
    have hf2 := HF1.out.below hb2 HF1.out.lt
    have hW2 := hW1.trans (hb2.mono hW1.size)
    have c4 : w2.cell? ⟨w.heap.size, 4, none⟩ = some (.slice W nw cw) := hB2.cell 4
    have f0 : w2.cell? ⟨w.heap.size + 1, 0, none⟩ = some (.func (.func F) #[] caps) := hf2.cell 0
    have hl2 : w.heap.size < w2.heap.size := hB2.lt
    have hl3 : w.heap.size + 1 < w2.heap.size := hf2.lt
    have hres := any_first (q := q) (l := l) (i := r) (by omega) (fun j x hj hx => HH1.out _ (HLO.out j x hj hx))
      (fun x hx hq j y hj hy => HH2.out _ _ (HHI.out r x (Nat.le_refl _) hx) hq (rises_mono HR.out hj hx hy))
    clear hB2 hf2 hb2
    by_cases hrr : r < nw
    · obtain ⟨x, hx⟩ := some_at (show r < l.length by omega)
      rw [hx] at hres
      have HRS := Lib.hid hres
      clear hres
      obtain ⟨b, off, rfl, hbl, h0, h1, h2⟩ := sl_pair (H.out.below hW2) hx
      clear hx
      have hi0 : (0 : Int) ≤ (r : Int) := by omega
      have hi1 : (r : Int) < (nw : Int) := by omega
      have hF2 : Hid (∀ W', Below w2.heap.size w2 W' → Calls Try.prog F (#[.string x.key] ++ caps) W' fun e W'' => e = .returned (.bool (q x.key)) ∧ Below W'.heap.size W' W'') := fun W' hW' => HF.out _ _ (hW2.trans (hW'.mono hW2.size))
      have hZ : Below w2.heap.size w2 w2 := Below.refl _ _
      go_wp2
      refine wp_region_later (by kernel_rfl) (by kernel_rfl) ?_
      repeat (go_big_quiet_step ((exact calls_later (hF2.out _ (later_from hZ (by simp) _)))))
      refine wpQuiet_nil ?_
      rintro _ ⟨e, rfl⟩
      have hb3 := later_from hZ (by simp) e
      generalize later _ e = w3 at *
      go_wp2
      go_ret
      exact ⟨ret_bool HRS.out.symm, hW2.trans (hb3.mono hW2.size)⟩
    · have hrr' : l[r]? = none := List.getElem?_eq_none (by omega)
      rw [hrr'] at hres
      have HRS := Lib.hid hres
      clear hres hrr'
      have hi1 : ¬ (r : Int) < (nw : Int) := by omega
      have hZ : Below w2.heap.size w2 w2 := Below.refl _ _
      go_wp2
      refine wp_region_later (by kernel_rfl) (by kernel_rfl) ?_
      repeat (go_big_quiet_step (fail))
      refine wpQuiet_nil ?_
      rintro _ ⟨e, rfl⟩
      have hb3 := later_from hZ (by simp) e
      generalize later _ e = w3 at *
      go_wp2
      go_ret
      exact ⟨ret_bool HRS.out.symm, hW2.trans (hb3.mono hW2.size)⟩

theorem wrote_calls (s sn : Int) (st : Bool) (R : Option Addr) (nr cr : Nat) (W : Option Addr) (nw cw : Nat) (l : List Pair) (k : ByteArray) (w : World) (hl : Sl tPair w (fun _ => True) (.slice W nw cw) l) (hn : nw ≤ 4611686018427387904) :
    Calls Try.prog 17 #[.agg #[.int .i64 s, .int .i64 sn, .bool st, .slice R nr cr, .slice W nw cw], .string k] w fun e w' => e = .returned (.bool (wrote l k)) ∧ Below w.heap.size w w' := by
  have hb0 : Below w.heap.size w ((w.alloc (.cells #[.int .i64 s, .int .i64 sn, .bool st, .slice R nr cr, .slice W nw cw] 25)).alloc (.cells #[.string k] 9)) := ((Below.refl _ _).alloc (Nat.le_refl _) _).alloc (by simp) _
  have hg : ∀ W' : World, Below ((w.alloc (.cells #[.int .i64 s, .int .i64 sn, .bool st, .slice R nr cr, .slice W nw cw] 25)).alloc (.cells #[.string k] 9)).heap.size ((w.alloc (.cells #[.int .i64 s, .int .i64 sn, .bool st, .slice R nr cr, .slice W nw cw] 25)).alloc (.cells #[.string k] 9)) W' → W'.cell? ⟨w.heap.size + 1, 0, none⟩ = some (.string k) := fun W' h => by
    rw [(bcell h).1 _ _ (by simp)]
    simp [go_sem]
  have HC := Lib.hid (within_calls s sn st R nr cr W nw cw l k (fun x => x.toList == k.toList) 34 #[.pointer (some ⟨w.heap.size + 1, 0, none⟩)] _ (hl.below hb0) hn (fun _ _ => by rfl)
    (fun x W' h => same_test (w.heap.size + 1) k x W' (hg W' h))
    (fun x hx => by
      cases he : x.toList == k.toList
      · rfl
      · rw [eq_of_beq he, bl_irrefl] at hx; cases hx)
    (fun x y hx hq hy => by
      cases he : y.toList == k.toList
      · rfl
      · rw [eq_of_beq he] at hy
        rw [bl_total hx hy] at hq
        simp at hq))
  have HB := Lib.hid hb0
  clear hb0 hl hg
  go_enter Try.func17, Try.ntmps17
  go_wp2_with fail
  refine HC.out.mono ?_
  rintro e w' ⟨rfl, hb⟩
  go_wp2
  go_ret
  exact ⟨rfl, HB.out.trans (hb.mono HB.out.size)⟩

theorem touches_calls (s sn : Int) (st : Bool) (R : Option Addr) (nr cr : Nat) (W : Option Addr) (nw cw : Nat) (sc : Bool) (k t : ByteArray) (ps : List Pair) (P : Option Addr) (np cp : Nat) (l : List Pair) (w : World) (hl : Sl tPair w (fun _ => True) (.slice W nw cw) l) (hn : nw ≤ 4611686018427387904) :
    Calls Try.prog 18 #[.agg #[.int .i64 s, .int .i64 sn, .bool st, .slice R nr cr, .slice W nw cw], .agg #[.bool sc, .string k, .string t, .slice P np cp]] w fun e w' => e = .returned (.bool (touches l ⟨sc, k, t, ps⟩)) ∧ Below w.heap.size w w' := by
  have hb0 : Below w.heap.size w ((w.alloc (.cells #[.int .i64 s, .int .i64 sn, .bool st, .slice R nr cr, .slice W nw cw] 25)).alloc (.cells #[.bool sc, .string k, .string t, .slice P np cp] 41)) := ((Below.refl _ _).alloc (Nat.le_refl _) _).alloc (by simp) _
  have hg : ∀ W' : World, Below ((w.alloc (.cells #[.int .i64 s, .int .i64 sn, .bool st, .slice R nr cr, .slice W nw cw] 25)).alloc (.cells #[.bool sc, .string k, .string t, .slice P np cp] 41)).heap.size ((w.alloc (.cells #[.int .i64 s, .int .i64 sn, .bool st, .slice R nr cr, .slice W nw cw] 25)).alloc (.cells #[.bool sc, .string k, .string t, .slice P np cp] 41)) W' →
      W'.cell? ⟨w.heap.size + 1, 1, none⟩ = some (.string k) ∧ W'.cell? ⟨w.heap.size + 1, 2, none⟩ = some (.string t) := fun W' h => by
    refine ⟨?_, ?_⟩ <;> rw [(bcell h).1 _ _ (by simp)] <;> simp [go_sem]
  have HB := Lib.hid hb0
  cases sc
  · have HC := Lib.hid (wrote_calls s sn st R nr cr W nw cw l k _ (hl.below hb0) hn)
    clear hb0 hl hg
    go_enter Try.func18, Try.ntmps18
    go_wp2_with fail
    refine HC.out.mono ?_
    rintro e w' ⟨rfl, hb⟩
    go_wp2
    go_ret
    exact ⟨rfl, HB.out.trans (hb.mono HB.out.size)⟩
  · have HC := Lib.hid (within_calls s sn st R nr cr W nw cw l k (fun x => !bytesLess x.toList k.toList && bytesLess x.toList t.toList) 35 #[.pointer (some ⟨w.heap.size + 1, 0, none⟩)] _ (hl.below hb0) hn (fun _ _ => by rfl)
      (fun x W' h => range_test (w.heap.size + 1) k t x W' (hg W' h).1 (hg W' h).2)
      (fun x hx => by simp [hx])
      (fun x y hx hq hy => by
        simp only [hx, Bool.not_false, Bool.true_and] at hq
        simp [bl_up hq hy]))
    clear hb0 hl hg
    go_enter Try.func18, Try.ntmps18
    go_wp2_with fail
    refine HC.out.mono ?_
    rintro e w' ⟨rfl, hb⟩
    go_wp2
    go_ret
    exact ⟨rfl, HB.out.trans (hb.mono HB.out.size)⟩
end Go.Proofs.Ytlbcckdbpgofmaa
