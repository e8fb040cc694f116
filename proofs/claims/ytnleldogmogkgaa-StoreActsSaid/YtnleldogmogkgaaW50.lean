import Derived.Test.YtnleldogmogkgaaW24
import Derived.Test.YtnleldogmogkgaaW48
import Derived.Test.YtnleldogmogkgaaW28
/-! StoreActs. -/
namespace Go.Proofs.Ytnleldogmogkgaa
open Go.RowKit Go.Op Go.Shelf

/-! ### Regions of open order in which all waits for one call, that waits for all ahead of it -/
section
variable {P : Program} {C : World → Prop} {md : Region.Mode} {ops : Array Oper} {k : Nat}
theorem wpAny_more {Q : Exit → Act → World → Prop} : ∀ (n f : Nat) (L : Array Bool) (a : Act) (w : World), wpAny P md ops Q n L a w → wpAny P md ops Q (n + f) L a w
  | 0, 0, _, _, _, h => h
  | 0, f + 1, _, _, _, h => by
    rw [Nat.zero_add]
    exact ⟨fun _ => h.2, fun i hi => by rw [h.1] at hi; cases hi⟩
  | n + 1, f, L, a, w, h => by
    rw [show n + 1 + f = (n + f) + 1 by omega]
    exact ⟨h.1, fun i hi => wpOp_mono (fun a' w' h' => wpAny_more n f _ a' w' h') (h.2 i hi)⟩
theorem wpAny_then {Q : Exit → Act → World → Prop} (hT : thenB md ops k = true) (hks : k ≤ ops.size) : ∀ (fuel : Nat) (L' L : Array Bool) (a : Act) (m : Nat), Mask md ops k L' L →
    wpAnyQ P md (ops.toList.take k).toArray C (fun a' => ∀ f w', C w' → wpAny P md ops Q (f + m) (maskAt k (ops.size - k)) a' w') fuel L' a → ∀ w, C w → wpAny P md ops Q (fuel + m) L a w
  | 0, L', L, a, m, hM, h, w, hw => by
    rw [hM.full hks (hM.all_of_none hT hks h.1)]
    exact h.2 0 w hw
  | fuel + 1, L', L, a, m, hM, h, w, hw => by
    by_cases hn : Region.ready md (ops.toList.take k).toArray L' = []
    · rw [hM.full hks (hM.all_of_none hT hks hn)]
      exact h.1 hn (fuel + 1) w hw
    · have hex : ∃ j, j ∈ Region.ready md (ops.toList.take k).toArray L' := by
        cases hr : Region.ready md (ops.toList.take k).toArray L' with
        | nil => exact absurd hr hn
        | cons j _ => exact ⟨j, by simp⟩
      have hsm : ∀ j, j ∈ Region.ready md (ops.toList.take k).toArray L' → j < k := fun j hj => by
        obtain ⟨_, o, ho, _⟩ := mem_ready.1 hj
        have := (Array.getElem?_eq_some_iff.1 ho).1
        simp at this
        omega
      obtain ⟨j0, hj0⟩ := hex
      have hj0' := (hM.ready_iff hT (hsm _ hj0)).1 hj0
      have hl : ∀ i ∈ Region.ready md ops L, i < k := fun i hi => by
        rcases Nat.lt_or_ge i k with h1 | h1
        · exact h1
        · have := hM.all_of_late hT hi h1 j0 (hsm _ hj0)
          have h2 := getD_false.1 (mem_ready.1 hj0').1
          rw [this] at h2
          cases h2
      rw [show fuel + 1 + m = (fuel + m) + 1 by omega]
      refine ⟨fun h0 => (by rw [h0] at hj0'; cases hj0'), fun i hi => ?_⟩
      have hik := hl i hi
      obtain ⟨o, ho, hg, _⟩ := thenB_pre hT hik
      have h1 := h.2 i ((hM.ready_iff hT hik).2 hi)
      have e : (ops.toList.take k).toArray[i]? = some o := by
        rw [List.getElem?_toArray, List.getElem?_take_of_lt hik, Array.getElem?_toList]; exact ho
      unfold qOp at h1
      unfold wpOp
      rw [e] at h1
      rw [ho]
      simp only [Region.wanted, hg, if_true] at h1 ⊢
      exact .inl (Oper.wp_of_quiet hw (fun a' w' hw' hk' => wpAny_then hT hks fuel _ _ a' m (hM.set hks hik hi) hk' w' hw') h1)
/-- A region of open order: operations that read, a call that waits for them all, and what waits for it, which reads alone. -/
theorem wp_region_cut {id : Nat} {Q : Exit → Act → World → Prop} {a : Act} {w : World} {l : List Oper} (k : Nat) {o : Oper} (hm : P.follows .mixedOrders = true) (ho : l[k]? = some o) (g : o.guard = none)
    (hB : Region.lexB .any (l.take k).toArray = true) (hT : thenB .any l.toArray k = true) (r1 : Region.ready .any l.toArray (maskAt k (l.length - k)) = [k])
    (hns : Region.noSelect l.toArray = true) (hB2 : Region.lexFrom .any l.toArray (l.drop (k + 1)).length (k + 1) ((maskAt k (l.length - k)).setIfInBounds k true) = true)
    (hC : C { w with drawn := w.drawn + 1 })
    (h : wpQuiet P (l.take k).toArray C (fun a' => ∀ w', C w' → o.wp P a' w' (fun a1 w1 => ∃ C1 : World → Prop, C1 w1 ∧ wpQuiet P l.toArray C1 (fun a2 => ∀ w2, C1 w2 → Q .normal a2 w2) (l.drop (k + 1)) a1) Q) (l.take k) a) : (Code.region id l.toArray true).wp P Q a w := by
  refine wp_region_any hm ?_
  have hkl : k < l.length := (List.getElem?_eq_some_iff.1 ho).1
  have hs : l.toArray.size = l.length := by simp
  have hlen : (l.take k).length = k := by rw [List.length_take]; omega
  have hdl : (l.drop (k + 1)).length = l.length - k - 1 := by rw [List.length_drop]; omega
  rw [hs, show l.length = k + (l.length - k) by omega]
  simp only [Region.lexB, Bool.and_eq_true] at hB
  rw [show k + (l.length - k) = l.length by omega]
  have key : wpAny P .any l.toArray Q (k + (l.length - k)) (Array.replicate l.length false) a { w with drawn := w.drawn + 1 } := by
    refine wpAny_then (C := C) (k := k) hT (by omega) k (Array.replicate k false) (Array.replicate l.length false) a (l.length - k) ?_ ?_ _ hC
    · refine ⟨by simp, by simp, fun i hi => ?_, fun i hi hsz => ?_, fun j o hj hl => ?_⟩
      · rw [Array.getElem?_replicate, Array.getElem?_replicate, if_pos hi, if_pos (by omega)]
      · rw [Array.getElem?_replicate, if_pos (by omega)]
      · rw [Array.getElem?_replicate, if_pos (by omega)] at hl
        cases hl
    · have h3 : wpQuiet P (l.take k).toArray C (fun a' => ∀ f w', C w' → wpAny P .any l.toArray Q (f + (l.length - k)) (maskAt k (l.toArray.size - k)) a' w') (l.take k) a := by
        have mono : ∀ (m : List Oper) (a : Act), wpQuiet P (l.take k).toArray C (fun a' => ∀ w', C w' → o.wp P a' w' (fun a1 w1 => ∃ C1 : World → Prop, C1 w1 ∧ wpQuiet P l.toArray C1 (fun a2 => ∀ w2, C1 w2 → Q .normal a2 w2) (l.drop (k + 1)) a1) Q) m a →
            wpQuiet P (l.take k).toArray C (fun a' => ∀ f w', C w' → wpAny P .any l.toArray Q (f + (l.length - k)) (maskAt k (l.toArray.size - k)) a' w') m a := by
          intro m
          induction m with
          | nil =>
            intro a ha f w' hw'
            have ha := ha w' hw'
            rw [hs, Nat.add_comm f]
            refine wpAny_more _ f _ _ _ ?_
            rw [show l.length - k = (l.drop (k + 1)).length + 1 by omega]
            refine ⟨fun h0 => ?_, fun i hi => ?_⟩
            · rw [show (l.drop (k + 1)).length + 1 = l.length - k by omega] at h0
              rw [r1] at h0; cases h0
            · rw [show (l.drop (k + 1)).length + 1 = l.length - k by omega] at hi ⊢
              rw [r1] at hi
              rw [List.mem_singleton.1 hi]
              unfold wpOp
              rw [show l.toArray[k]? = some o by simpa using ho]
              simp only [Region.wanted, g, if_true]
              refine .inl (Oper.wp_mono (fun a1 w1 h4 => ?_) ha)
              obtain ⟨C1, c1, c2⟩ := h4
              refine wpAny_of_quiet (C := C1) (Q := fun a2 => ∀ w2, C1 w2 → Q .normal a2 w2) (fun _ w' hw' h => h w' hw') _ _ _ _ c1 ?_
              exact wpAnyQ_lex (C := C1) (md := .any) hns (l.drop (k + 1)) (k + 1) _ a1 (fun j => by rw [List.getElem?_drop]; simp) hB2 c2
          | cons o m ih =>
            intro a ha
            unfold wpQuiet at ha ⊢
            split
            · rename_i hw
              rw [if_pos hw] at ha
              exact Oper.quiet_mono (fun a => ih a) ha
            · rename_i hw
              rw [if_neg hw] at ha
              exact ih _ ha
        exact mono _ _ h
      have := wpAnyQ_lex (C := C) (md := .any) hB.1 (l.take k) 0 (Array.replicate k false) a (by simp) (by have := hB.2; simp only [List.size_toArray, hlen] at this; rw [hlen]; exact this) h3
      rw [hlen] at this
      exact this
  rw [show k + (l.length - k) = l.length by omega] at key
  exact key
end
theorem actS_size {S : Sto} (h : S.Ok) (a : SAct) : (actS S a).ents.length ≤ S.ents.length + a.l.length ∧ (actS S a).last ≤ S.last + 1 := by
  unfold actS
  split
  · exact ⟨(inst_size h _ _).1, (inst_size h _ _).2.1⟩
  · split
    · exact ⟨(inst_size h _ _).1, (inst_size h _ _).2.1⟩
    · split
      · have := coll_size S a.n; omega
      · omega
structure Dnd (w wr : World) (pb mb rb : Nat) (j : Nat) : Prop where
  ex : ∃ kv v X S, Duo w wr pb mb kv rb v X S S ∧ S.last ≤ (j : Int) ∧ S.ents.length ≤ 60 * j

set_option maxHeartbeats 8000000 in
set_option maxRecDepth 100000 in
theorem acts_calls (acts : List SAct) (A : Option Addr) (n c : Nat) (w : World) (hl : Sl tAct w (fun _ => True) (.slice A n c) acts) (ho : ∀ a ∈ acts, ActOk a) :
    Calls Try.prog 8 #[.slice A n c] w fun e w' => e = .returned (.bool true) ∧ Below w.heap.size w w' := by
  have hln := hl.length
  have HL := Lib.hid hl
  have HO := Lib.hid ho
  obtain ⟨hln, hcap, hcm⟩ := hln
  have HLN := Lib.hid hln
  have HLI := Lib.hid (light_calls acts A n c w hl ho)
  have hlive : Hid (∀ W, Below w.heap.size w W → Calls Try.prog 12 #[] W fun e w' => e = .returned (.bool true) ∧ Below w.heap.size w w') := fun W h => (lives_calls W).mono fun e w' ⟨e1, h1⟩ => ⟨e1, h.trans (h1.mono h.size)⟩
  clear hl ho hln
  go_enter Try.func8, Try.ntmps8
  go_wp2_with fail
  refine HLI.out.mono ?_
  rintro e w1 ⟨b, rfl, hb, hb1⟩
  have HB1 := Lib.hid hb1
  clear HLI hb1
  cases b
  case false =>
    clear hb
    go_wp2_with fail
    refine (hlive.out _ HB1.out).mono ?_
    rintro e w3 ⟨rfl, hb3⟩
    go_wp2
    go_ret
    exact ⟨rfl, hb3⟩
  case true =>
    obtain ⟨hn60, hfew⟩ := hb rfl
    have HFEW := Lib.hid hfew
    obtain ⟨z, hz⟩ : ∃ z, w1.heap.size = z := ⟨_, rfl⟩
    clear hb hfew
    go_wp2_with fail
    refine (my_new w w1 HB1.out).mono ?_
    rintro e w2 ⟨rfl, hM2⟩
    rw [hz] at hM2 ⊢
    have hD2 := Duo.start hM2
    obtain ⟨rb, hrb⟩ : ∃ rb, w2.heap.size = rb := ⟨_, rfl⟩
    rw [hrb] at hD2
    have HA0 : Hid (Dnd w (w2.alloc (.cells #[.slice none 0 0, .int .i64 0, .int .i64 0] 53)) (z + 1) z rb 0) := ⟨_, _, _, _, hD2, by simp [Sto.new], by simp [Sto.new]⟩
    clear hM2 hD2 hz
    go_wp2
    clear hrb
    go_loopw [16] (fun i wr => ∃ j : Nat, i = .int .i64 j ∧ j ≤ n ∧ Hid (Dnd w wr (z + 1) z rb j)) (fun i _ => n - (intOf i).toNat)
    case atStart => exact ⟨0, rfl, by omega, HA0⟩
    case round =>
      obtain ⟨j, rfl, hj, hAt⟩ := hrel
      clear HA0
      obtain ⟨kv, v, X, S, hD, hla, hen⟩ := hAt.out.ex
      by_cases hlt : j < n
      · obtain ⟨a, ha⟩ := some_at (show j < acts.length by rw [HLN.out]; exact hlt)
        obtain ⟨b, off, Pa, na, ca, rfl, hbl, x0, x1, x2, x3, x4, x5, hPa⟩ := sl_act ((hD.arg HL.out).mono (ok' := fun _ => True) fun _ _ => trivial) ha
        have hPw : Hid (Sl tPair w (fun _ => True) (.slice Pa na ca) a.l) := by
          obtain ⟨b', off', P', np', cp', e', -, -, -, -, y3, -, -, hP'⟩ := sl_act HL.out ha
          injection e' with e'
          injection e' with e1 e2
          subst e1 e2
          have hlt' : b < w.heap.size := World.block_lt_of_cell? w _ y3
          have := (hD.my.be.cell (p := ⟨b, off + j * 6 + 3, none⟩) hlt').trans y3
          rw [this] at x3
          injection x3 with x3
          injection x3 with q1 q2 q3
          subst q1 q2 q3
          exact hP'
        have hao := HO.out a (List.mem_of_getElem? ha)
        obtain ⟨hfa, -, -⟩ := HFEW.out a (List.mem_of_getElem? ha)
        obtain ⟨w7, hw7⟩ : ∃ w7, wr.alloc (.cells #[.int .i64 a.kind, .int .i64 a.n, .int .i64 a.most, .slice Pa na ca, .string a.fr, .string a.to] 25) = w7 := ⟨_, rfl⟩
        obtain ⟨ga, hga⟩ : ∃ ga, wr.heap.size = ga := ⟨_, rfl⟩
        have hb7 : Below wr.heap.size wr w7 := by rw [← hw7]; exact (Below.refl _ _).alloc (Nat.le_refl _) _
        have hV7 : Blk w7 ga #[.int .i64 a.kind, .int .i64 a.n, .int .i64 a.most, .slice Pa na ca, .string a.fr, .string a.to] 25 := by rw [← hw7, ← hga]; exact Blk.new _ _ _
        have hD7 := hD.below hb7
        have hgX : ga ∉ X := fun hm => by have := hD.my.st.lt _ hm; omega
        have HGX := Lib.hid hgX
        have HD7 := Lib.hid hD7
        have HV7 := Lib.hid hV7
        have HAO := Lib.hid hao
        have hszs := actS_size hD.my.st.ok a
        have hnew : Hid ((actS S a).last ≤ ((j + 1 : Nat) : Int) ∧ (actS S a).ents.length ≤ 60 * (j + 1)) := ⟨by omega, by omega⟩
        obtain ⟨S2, hS2⟩ : ∃ S2, actS S a = S2 := ⟨_, rfl⟩
        have hA23 : Hid (∀ W, Below w7.heap.size w7 W → Calls Try.prog 23 #[.pointer (some ⟨z + 1, 0, none⟩), .pointer (some ⟨rb, 0, none⟩), .agg #[.int .i64 a.kind, .int .i64 a.n, .int .i64 a.most, .slice Pa na ca, .string a.fr, .string a.to]] W fun e w' => e = .returned (.bool true) ∧ Hid (Acted w w7 w' (z + 1) z rb X S2)) := fun W hb => by
          refine (act_calls w W (z + 1) z kv rb v X S a Pa na ca (HD7.out.below hb) hPw.out HAO.out (by omega) (by omega)).mono ?_
          rintro e w' ⟨e1, kv2, v2, X2, h1, h2⟩
          rw [hS2] at h1
          exact ⟨e1, kv2, v2, X2, h1, (Out.of_below hb X).trans h2⟩
        rw [hS2] at hnew
        have y0 := hV7.cell 0
        have y1 := hV7.cell 1
        have y2 := hV7.cell 2
        have y3 := hV7.cell 3
        have y4 := hV7.cell 4
        have y5 := hV7.cell 5
        have hgl7 : ga < w7.heap.size := hV7.lt
        clear hD hPa ha hb7 hV7 hD7 hgX hao hszs hS2
        go_wp2_with fail
        clear hw7 x0 x1 x2 x3 x4 x5
        refine wp_region_cut (C := fun W => ∃ n, W = w7.drewN n) 3 (by kernel_rfl) rfl rfl (by kernel_rfl) (by kernel_rfl) (by kernel_rfl) (by kernel_rfl) (by kernel_rfl) ⟨1, rfl⟩ ?_
        simp only [List.append, List.take_succ_cons, List.take_zero, List.drop_succ_cons, List.drop_zero]
        repeat (go_big_quiet_step (fail))
        refine wpQuiet_nil ?_
        rintro _ ⟨nd, rfl⟩
        have hbn : Below w7.heap.size w7 (w7.drewN nd) := below_drewN (Below.refl _ _) nd
        go_simp
        go_at_call 23
        refine (hA23.out _ hbn).mono ?_
        rintro e wA ⟨rfl, hAC⟩
        obtain ⟨kvA, vA, XA, hDA, hOA⟩ := hAC.out
        have hVA := hOA.blk HV7.out HGX.out
        have y1 := hVA.cell 1
        have y3 := hVA.cell 3
        have y4 := hVA.cell 4
        have y5 := hVA.cell 5
        have hglA := hVA.lt
        have hrlA : rb < wA.heap.size := hDA.ref.lt _ hDA.ref.inP
        obtain ⟨-, c1, c2⟩ := hDA.ref.cells
        have HDA := Lib.hid hDA
        have HPA := Lib.hid ((hDA.arg hPw.out).mono (ok' := fun _ => True) fun _ _ => trivial)
        have hmf := max_of HAO.out.1
        have hmt := max_of HAO.out.2.1
        have HMF := Lib.hid hmf
        have HMT := Lib.hid hmt
        have h14 : Hid (∀ W, Below wA.heap.size wA W → Calls Try.prog 14 #[.pointer (some ⟨z + 1, 0, none⟩)] W fun e w' => e = .returned (.int .i64 S2.last) ∧ Below W.heap.size W w') := fun W hb => (slast_calls (z + 1) z kvA XA S2 W (HDA.out.below hb).my.st).mono fun e w' ⟨h1, h2⟩ => ⟨h1, h2 ▸ Below.refl _ _⟩
        have h20 : Hid (∀ W, Below wA.heap.size wA W → Calls Try.prog 20 #[.pointer (some ⟨z + 1, 0, none⟩)] W fun e w' => e = .returned (.int .i64 S2.floor) ∧ Below W.heap.size W w') := fun W hb => (sfloor_calls (z + 1) z kvA XA S2 W (HDA.out.below hb).my.st).mono fun e w' ⟨h1, h2⟩ => ⟨h1, h2 ▸ Below.refl _ _⟩
        obtain ⟨vn, hvn⟩ : ∃ vn, vers S2.ents = vn := ⟨_, rfl⟩
        have h25 : Hid (∀ W, Below wA.heap.size wA W → Calls Try.prog 25 #[.pointer (some ⟨z + 1, 0, none⟩)] W fun e w' => e = .returned (.int .i64 (vn : Nat)) ∧ Below W.heap.size W w') := fun W hb => hvn ▸ svers_calls (z + 1) z kvA XA S2 W (HDA.out.below hb).my.st
        have h26 : Hid (∀ W, Below wA.heap.size wA W → Calls Try.prog 26 #[.pointer (some ⟨rb, 0, none⟩)] W fun e w' => e = .returned (.int .i64 (vn : Nat)) ∧ Below W.heap.size W w') := fun W hb => hvn ▸ rvers_calls rb vA XA S2 W (HDA.out.below hb).ref
        obtain ⟨wn, hwn⟩ : ∃ wn, wrote S2.ents a.fr a.n = wn := ⟨_, rfl⟩
        have h18 : Hid (∀ W, Below wA.heap.size wA W → Calls Try.prog 18 #[.pointer (some ⟨z + 1, 0, none⟩), .string a.fr, .int .i64 a.n] W fun e w' => e = .returned (.bool wn) ∧ Below W.heap.size W w') := fun W hb => hwn ▸ swrote_calls (z + 1) z kvA XA S2 a.fr a.n W (HDA.out.below hb).my.st HMF.out
        have h27 : Hid (∀ W, Below wA.heap.size wA W → Calls Try.prog 27 #[.pointer (some ⟨rb, 0, none⟩), .string a.fr, .int .i64 a.n] W fun e w' => e = .returned (.bool wn) ∧ Below W.heap.size W w') := fun W hb => hwn ▸ rwrote_calls rb vA XA S2 a.fr a.n W (HDA.out.below hb).ref HAO.out.1
        obtain ⟨xn, hxn⟩ : ∃ xn, within S2.ents a.fr a.to a.n = xn := ⟨_, rfl⟩
        have h19 : Hid (∀ W, Below wA.heap.size wA W → Calls Try.prog 19 #[.pointer (some ⟨z + 1, 0, none⟩), .string a.fr, .string a.to, .int .i64 a.n] W fun e w' => e = .returned (.bool xn) ∧ Below W.heap.size W w') := fun W hb => hxn ▸ swithin_calls (z + 1) z kvA XA S2 a.fr a.to a.n W (HDA.out.below hb).my.st HMF.out HMT.out
        have h28 : Hid (∀ W, Below wA.heap.size wA W → Calls Try.prog 28 #[.pointer (some ⟨rb, 0, none⟩), .string a.fr, .string a.to, .int .i64 a.n] W fun e w' => e = .returned (.bool xn) ∧ Below W.heap.size W w') := fun W hb => hxn ▸ rwithin_calls rb vA XA S2 a.fr a.to a.n W (HDA.out.below hb).ref
        obtain ⟨gn, hgn⟩ : ∃ gn, goodL a.l = gn := ⟨_, rfl⟩
        have h21 : Hid (∀ W, Below wA.heap.size wA W → Calls Try.prog 21 #[.slice Pa na ca] W fun e w' => e = .returned (.bool gn) ∧ Below W.heap.size W w') := fun W hb => hgn ▸ goodl_calls a.l Pa na ca W (HPA.out.below hb) HAO.out.2.2.1
        have h29 : Hid (∀ W, Below wA.heap.size wA W → Calls Try.prog 29 #[.slice Pa na ca] W fun e w' => e = .returned (.bool gn) ∧ Below W.heap.size W w') := fun W hb => hgn ▸ rgoodl_calls a.l Pa na ca W (HPA.out.below hb) HAO.out.2.2.1
        clear hAC hDA hOA hVA hmf hmt hvn hwn hxn hgn hA23 HD7 HV7 hbn
        refine ⟨fun W => ∃ e : Later wA, W = later wA e, later_mk (Below.refl _ _), ?_⟩
        repeat (go_big_quiet_step (first
          | (go_at_call 14; exact calls_later (h14.out _ (later_below _)))
          | (go_at_call 20; exact calls_later (h20.out _ (later_below _)))
          | (go_at_call 25; exact calls_later (h25.out _ (later_below _)))
          | (go_at_call 26; exact calls_later (h26.out _ (later_below _)))
          | (go_at_call 18; exact calls_later (h18.out _ (later_below _)))
          | (go_at_call 27; exact calls_later (h27.out _ (later_below _)))
          | (go_at_call 19; exact calls_later (h19.out _ (later_below _)))
          | (go_at_call 28; exact calls_later (h28.out _ (later_below _)))
          | (go_at_call 21; exact calls_later (h21.out _ (later_below _)))
          | (go_at_call 29; exact calls_later (h29.out _ (later_below _)))))
        refine wpQuiet_nil ?_
        rintro _ ⟨e, rfl⟩
        have R : Hid (Dnd w (later wA e) (z + 1) z rb (j + 1)) := ⟨kvA, vA, XA, S2, HDA.out.below (later_below e), hnew.out.1, hnew.out.2⟩
        generalize later wA e = w9 at *
        clear h14 h20 h25 h26 h18 h27 h19 h28 h21 h29 y1 y3 y4 y5 c1 c2
        go_wp2
        go_roundw
        case rel => exact ⟨j + 1, by go_num, by omega, R⟩
        case measure => simp [intOf]; omega
      · obtain rfl : j = n := by omega
        have hBe := Lib.hid hD.my.be
        clear hD hAt
        go_wp2_with fail
        refine (hlive.out _ hBe.out).mono ?_
        rintro e w9 ⟨rfl, hb9⟩
        go_wp2
        go_ret
        exact ⟨rfl, hb9⟩
end Go.Proofs.Ytnleldogmogkgaa
