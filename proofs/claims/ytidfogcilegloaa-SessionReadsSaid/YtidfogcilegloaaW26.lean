import Derived.Test.YtidfogcilegloaaW25
/-! The keys of a range, one by one. -/
namespace Go.Proofs.Ytidfogcilegloaa
open Go.RowKit Go.Op Go.Shelf
attribute [local go_sem] Oper.semAt_some
theorem wide_fn (f : FuncId) : Fence.wide.fn f = True := eq_true trivial
attribute [local go_sem] wide_fn

theorem take_succ_at {α : Type} {l : List α} {j : Nat} {k : α} (h : l[j]? = some k) : l.take (j + 1) = l.take j ++ [k] := by
  rw [List.take_add_one, h]; rfl
theorem keysIn_at {ks : List ByteArray} {x y : ByteArray} {j : Nat} {k : ByteArray} (hall : ∀ a ∈ (ks.drop (lowS ks x)).take j, klt a y = true) (hk : ks[lowS ks x + j]? = some k) :
    (klt k y = true → (ks.drop (lowS ks x)).take (j + 1) <+: keysIn ks x y ∧ (∀ a ∈ (ks.drop (lowS ks x)).take (j + 1), klt a y = true)) ∧ (klt k y = false → keysIn ks x y = (ks.drop (lowS ks x)).take j) := by
  have hk' : (ks.drop (lowS ks x))[j]? = some k := by rw [List.getElem?_drop]; exact hk
  have hs := take_succ_at hk'
  have hjl : j < (ks.drop (lowS ks x)).length := (List.getElem?_eq_some_iff.1 hk').1
  have hd : ks.drop (lowS ks x) = (ks.drop (lowS ks x)).take j ++ k :: (ks.drop (lowS ks x)).drop (j + 1) := by
    conv => lhs; rw [← List.take_append_drop j (ks.drop (lowS ks x))]
    rw [← List.getElem_cons_drop (h := hjl), List.getElem?_eq_getElem hjl] at *
    injection hk' with hk'
    rw [hk']
  constructor
  · intro hlt
    have ha : ∀ a ∈ (ks.drop (lowS ks x)).take (j + 1), klt a y = true := fun a ha => by
      rw [hs, List.mem_append, List.mem_singleton] at ha
      rcases ha with ha | rfl
      · exact hall a ha
      · exact hlt
    refine ⟨?_, ha⟩
    unfold keysIn
    conv => rhs; rw [← List.take_append_drop (j + 1) (ks.drop (lowS ks x))]
    rw [List.takeWhile_append_of_pos ha]
    exact List.prefix_append _ _
  · intro hlt
    unfold keysIn
    conv => lhs; rw [hd]
    rw [List.takeWhile_append_of_pos hall, List.takeWhile_cons, hlt]
    simp
theorem keysIn_end {ks : List ByteArray} {x y : ByteArray} {j : Nat} (hall : ∀ a ∈ (ks.drop (lowS ks x)).take j, klt a y = true) (hj : ks.length ≤ lowS ks x + j) : keysIn ks x y = (ks.drop (lowS ks x)).take j := by
  unfold keysIn
  rw [List.take_of_length_le (by rw [List.length_drop]; omega)] at hall ⊢
  have := List.takeWhile_append_of_pos (l₂ := []) hall
  rw [List.append_nil] at this
  rw [this]; simp

set_option maxHeartbeats 8000000 in
theorem btw1_in (z : Nat) (Y : Nat → Prop) (pb mb bs bf bt : Nat) (kv : Value) (x y : ByteArray) (ks : List ByteArray) (V : List (ByteArray × Value)) (l f : Int) (hr : ks.Pairwise fun a b => klt a b = true) (hn : ks.length ≤ 1000000) (hsz : ∀ k ∈ ks, k.size ≤ maxLen) (_hys : y.size ≤ maxLen)
    (m lid : Nat) (J Jx : List (ByteArray × Value) → World → Prop) (W : World) (hB : Btw z Y W pb mb bs bf bt kv x y ks V l f) (hz : z ≤ W.heap.size) (hJ : ∀ s A B, J s A → Below A.heap.size A B → J s B)
    (hY : ∀ pre x' W1, J pre W1 → pre ++ [x'] <+: selV ks V x y → YieldAt Fence.wide (m - 1) Try.prog lid (encKV x') W1 fun e W' => (e = .returned (.bool true) ∧ J (pre ++ [x']) W' ∧ Kept Y z W1 W') ∨ (e = .returned (.bool false) ∧ Jx (pre ++ [x']) W'))
    (h0 : J [] W) :
    CallsIn Fence.wide m Try.prog 62 #[.func (.yield lid) #[] #[], .pointer (some ⟨bs, 0, none⟩), .pointer (some ⟨bf, 0, none⟩), .pointer (some ⟨bt, 0, none⟩)] W fun e W' => (∃ v, e = .returned v) ∧ (J (selV ks V x y) W' ∨ (∃ pre, Jx pre W')) := by
  obtain ⟨A, c, rfl, hnc, hc, -⟩ := hB.keys.form
  obtain ⟨n, hkn⟩ : ∃ n, ks.length = n := ⟨_, rfl⟩
  rw [hkn] at hn hnc hB
  have hdd : ∀ k : Nat, (Fence.wide.depth.isSome = true → 1 ≤ k) := fun k h => by cases h
  have hlt : ∀ b, (b = bs ∨ b = bf ∨ b = bt ∨ b = pb) → b < W.heap.size := fun b hb => Nat.lt_of_lt_of_le (hB.own b (by rcases hb with h | h | h | h <;> simp [h])).1 hz
  have l1 := hlt bs (by simp)
  have l2 := hlt bf (by simp)
  have l3 := hlt bt (by simp)
  have l4 := hlt pb (by simp)
  have y1 := hB.c1
  have y2 := hB.c2
  have y3 := hB.c3
  have y4 := hB.blk.cell 0
  have y5 := hB.blk.cell 1
  have HBS : Hid (∀ W', Below W.heap.size W W' → Calls Try.prog 39 #[.slice A n c, .string x] W' fun e w' => e = .returned (.tuple #[.int .i64 (lowS ks x : Nat), .bool (hasS ks x)]) ∧ Below W'.heap.size W' w') := fun W' hb =>
    bsearch_calls ks A n c x W' ((hB.keys.sl.mono fun _ _ => trivial).below hb) hr hn
  have HB := Lib.hid hB
  have HY := Lib.hid hY
  have HJ := Lib.hid hJ
  have H0 := Lib.hid h0
  have HKN := Lib.hid hkn
  have HSZ := Lib.hid hsz
  have HR := Lib.hid hr
  clear hB hY hJ h0 hlt hkn hsz hr
  refine callsIn_of_wp Try.func62 rfl trivial ?_ rfl
  simp only [Try.ntmps62, List.size_toArray, List.length_cons, List.length_nil, Nat.reduceAdd, Nat.reduceSub, Array.replicate_succ, Array.replicate_zero, List.push_toArray, List.append_toArray, List.nil_append, List.cons_append]
  gi_wp2
  refine wpIn_region_later rfl (by kernel_rfl) (by kernel_rfl) ?_
  repeat (gi_big_quiet_step ((refine ⟨hdd _, ?_⟩; gi_at_call 39; exact callsIn_later (callsIn_wide.2 (HBS.out _ (later_below _))))))
  refine wpQuietIn_nil ?_
  rintro _ ⟨e, rfl⟩
  have hb1 := later_below e
  have hz1 : z ≤ (later W e).heap.size := Nat.le_trans hz hb1.size
  have HB1 : Hid (Btw z Y (later W e) pb mb bs bf bt (.slice A n c) x y ks V l f) := HB.out.kept (Kept.of_below hb1 hz)
  have HJ1 : Hid (J [] (later W e)) := HJ.out _ _ _ H0.out hb1
  clear HB H0 HBS y1 y2 y3 y4 y5 hb1 hz l1 l2 l3 l4
  generalize later W e = W1 at *
  obtain ⟨lo, hlo⟩ : ∃ lo, lowS ks x = lo := ⟨_, rfl⟩
  have hlon : lo ≤ n := by rw [← hlo, ← HKN.out]; exact (List.takeWhile_sublist _).length_le
  have HLO := Lib.hid hlo
  rw [hlo]
  have HS0 : Hid (∃ d, lo = lo + d ∧ J (((ks.drop lo).take d).map fun k => (k, valOf V k)) W1 ∧ (∀ a ∈ (ks.drop lo).take d, klt a y = true)) := ⟨0, rfl, by simpa using HJ1.out, by simp⟩
  clear HJ1 hlo
  gi_wp2
  gi_loopw [5] (fun i wr => ∃ j : Nat, i = .int .i64 j ∧ lo ≤ j ∧ j ≤ n ∧ z ≤ wr.heap.size ∧ Hid (Btw z Y wr pb mb bs bf bt (.slice A n c) x y ks V l f) ∧ Hid (∃ d, j = lo + d ∧ J (((ks.drop lo).take d).map fun k => (k, valOf V k)) wr ∧ (∀ a ∈ (ks.drop lo).take d, klt a y = true))) (fun i _ => n - (intOf i).toNat)
  case atStart => exact ⟨lo, rfl, Nat.le_refl _, hlon, hz1, HB1, HS0⟩
  case round =>
    obtain ⟨j, rfl, hjlo, hjn, hzr, hBr, hSr⟩ := hrel
    clear HS0 HB1 hz1
    obtain ⟨d, hd, hJd, hall⟩ := hSr.out
    have hlt : ∀ b, (b = bs ∨ b = bf ∨ b = bt ∨ b = pb) → b < wr.heap.size := fun b hb => Nat.lt_of_lt_of_le (hBr.out.own b (by rcases hb with h | h | h | h <;> simp [h])).1 hzr
    have l1 := hlt bs (by simp)
    have l2 := hlt bf (by simp)
    have l3 := hlt bt (by simp)
    have l4 := hlt pb (by simp)
    have y1 := hBr.out.c1
    have y3 := hBr.out.c3
    have y4 := hBr.out.blk.cell 0
    have y5 := hBr.out.blk.cell 1
    have hlo := HLO.out
    by_cases hjlt : j < n
    · obtain ⟨k, hk⟩ := some_at (show j < ks.length by rw [HKN.out]; exact hjlt)
      obtain ⟨g, off, rfl, hg, x0⟩ := sl_str hBr.out.keys.sl hk
      have hks := HSZ.out k (List.mem_of_getElem? hk)
      have hstep := keysIn_at (y := y) (x := x) (j := d) (k := k) (by rw [hlo]; exact hall) (by rw [hlo, ← hd]; exact hk)
      rw [hlo] at hstep
      cases hky : bytesLess k.toList y.toList
      · have hend := Lib.hid (hstep.2 hky)
        have HD := Lib.hid hd
        have HJD := Lib.hid hJd
        clear hstep hall hk hd hlo hJd
        gi_wp2
        gi_big_quiet_th (fail)
        gi_wp2
        go_end0
        refine ⟨⟨_, rfl⟩, .inl ?_⟩
        unfold selV
        rw [hend.out]
        exact HJ.out _ _ _ HJD.out (below_drewN (Below.refl _ _) _)
      · have hgo := Lib.hid (hstep.1 hky)
        have HD := Lib.hid hd
        have HJD := Lib.hid hJd
        have HK := Lib.hid hk
        have HLL := Lib.hid hlo
        clear hstep hall hk hd hlo hJd
        gi_wp2
        gi_big_quiet_th (fail)
        gi_wp2
        have hbn : Below wr.heap.size wr (wr.drewN nq) := below_drewN (Below.refl _ _) nq
        have HB2 := Lib.hid (hBr.out.kept (Kept.of_below hbn hzr))
        have HJ2 := Lib.hid (HJ.out _ _ _ HJD.out hbn)
        have hz2 : z ≤ (wr.drewN nq).heap.size := hzr
        have hs2 : wr.heap.size = (wr.drewN nq).heap.size := rfl
        rw [hs2] at l1 l2 l3 l4
        clear hbn hs2 hBr HJD y1 y3 y4 y5 x0 hzr hSr
        generalize wr.drewN nq = wr2 at *
        have y1 := HB2.out.c1
        have y4 := HB2.out.blk.cell 0
        have y5 := HB2.out.blk.cell 1
        obtain ⟨g', off', e', hg', x0⟩ := sl_str HB2.out.keys.sl HK.out
        injection e' with e'
        injection e' with e1 e2
        subst e1 e2
        have hmp : ∀ q, (Instr.lookup 70 (.map (some mb)) (.string k) false).run Try.prog (wr2.drewN q) = .ok (valOf V k) (wr2.drewN q) := fun q => (HB2.out.map.same (w' := wr2.drewN q) rfl).look1 Try.underlying70 (zero61 _) hks
        obtain ⟨vk, hvk⟩ : ∃ vk, valOf V k = vk := ⟨_, rfl⟩
        rw [hvk] at hmp
        have HVK := Lib.hid hvk
        clear hvk
        refine wpIn_region_then 20 rfl (by kernel_rfl) rfl rfl rfl (by kernel_rfl) (by kernel_rfl) rfl rfl (by kernel_rfl) (by kernel_rfl) (by kernel_rfl) (C := fun W' => ∃ q, W' = wr2.drewN q) ⟨1, rfl⟩ ?_
        simp only [List.take]
        repeat (gi_big_quiet_step (fail))
        refine wpQuietIn_nil ?_
        rintro _ ⟨q, rfl⟩
        have hbq : Below wr2.heap.size wr2 (wr2.drewN q) := below_drewN (Below.refl _ _) q
        have hHB : Hid (Btw z Y (wr2.drewN q) pb mb bs bf bt (.slice (some ⟨g, off, none⟩) n c) x y ks V l f) := HB2.out.kept (Kept.of_below hbq hz2)
        have hpre : ((ks.drop lo).take d).map (fun k => (k, valOf V k)) ++ [(k, vk)] = ((ks.drop lo).take (d + 1)).map fun k => (k, valOf V k) := by
          rw [take_succ_at (show (ks.drop lo)[d]? = some k by rw [List.getElem?_drop, ← HD.out]; exact HK.out), List.map_append, List.map_singleton, HVK.out]
        obtain ⟨fn, tmps, assign, body, hy, hR⟩ := HY.out _ (k, vk) (wr2.drewN q) (HJ.out _ _ _ HJ2.out hbq) (by rw [hpre]; unfold selV; exact hgo.out.1.map _)
        rw [hpre] at hR
        have hzq : z ≤ (wr2.drewN q).heap.size := hz2
        clear hmp hbq y1 y4 y5 x0 HB2 HJ2 hpre hz2
        dsimp only [encKV] at hy
        gi_wp2_with (first
          | (refine ⟨hdd _, ?_⟩
             refine hR.mono ?_
             clear hR
             rintro e w3 (⟨rfl, hJ3, hk3⟩ | ⟨rfl, hJx3⟩)))
        · have hz3 : z ≤ w3.heap.size := Nat.le_trans hzq hk3.1
          have HB3 := Lib.hid (hHB.out.kept hk3)
          have HS3 : Hid (∃ d', j + 1 = lo + d' ∧ J (((ks.drop lo).take d').map fun k => (k, valOf V k)) w3 ∧ (∀ a ∈ (ks.drop lo).take d', klt a y = true)) := ⟨d + 1, by have := HD.out; omega, hJ3, hgo.out.2⟩
          clear hJ3 hk3 hHB hy
          gi_wp2
          go_roundw
          case rel => exact ⟨j + 1, by go_num, by omega, by omega, hz3, HB3, HS3⟩
          case measure => simp [intOf]; omega
        · have HX := Lib.hid hJx3
          clear hJx3 hy
          gi_wp2
          refine bodyPost_ret (results_none rfl _ _ _) rfl ?_
          exact ⟨⟨_, rfl⟩, .inr ⟨_, HX.out⟩⟩
    · have hend : Hid (keysIn ks x y = (ks.drop lo).take d) := by
        have := keysIn_end (ks := ks) (x := x) (y := y) (j := d) (by rw [hlo]; exact hall) (by rw [hlo, HKN.out]; omega)
        rw [hlo] at this
        exact this
      have HJD := Lib.hid hJd
      clear hall hd hlo hJd
      gi_wp2
      gi_big_quiet_th (fail)
      gi_wp2
      go_end0
      refine ⟨⟨_, rfl⟩, .inl ?_⟩
      unfold selV
      rw [hend.out]
      exact HJ.out _ _ _ HJD.out (below_drewN (Below.refl _ _) _)
end Go.Proofs.Ytidfogcilegloaa
