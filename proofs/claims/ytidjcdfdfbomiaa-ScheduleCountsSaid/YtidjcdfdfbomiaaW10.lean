import Derived.Test.YtidjcdfdfbomiaaW9
/-! ScheduleBack. -/
namespace Go.Proofs.Ytidjcdfdfbomiaa
open Go.RowKit Go.Op

theorem idx_spec {α : Type} {p : α → Bool} : ∀ {l : List α}, l.any p = true → ∃ (t : Nat) (x : α), idx p l = (t : Int) ∧ l[t]? = some x ∧ p x = true
  | [], h => by simp at h
  | y :: l, h => by
    cases hy : p y
    · have h2 : l.any p = true := by simpa [hy] using h
      obtain ⟨t, x, h3, h4, h5⟩ := idx_spec h2
      refine ⟨t + 1, x, ?_, by simpa using h4, h5⟩
      rw [idx, if_pos h2] at h3
      rw [idx, if_pos h, List.takeWhile_cons, hy]
      simp at h3 ⊢
      exact h3
    · refine ⟨0, y, ?_, rfl, hy⟩
      rw [idx, if_pos h, List.takeWhile_cons, hy]; rfl
theorem place_spec {l : List Plan} {at_ : List Nat} {i : Nat} (h : i ∈ openL l at_) : ∃ t : Nat, placeV l at_ i = (t : Int) ∧ (openL l at_)[t]? = some i := by
  have ha : ((openL l at_).map fun i : Nat => (i : Int)).any (fun y => (i : Int) == y) = true := List.any_eq_true.2 ⟨(i : Int), List.mem_map.2 ⟨i, h, rfl⟩, by simp⟩
  obtain ⟨t, x, h1, h2, h3⟩ := idx_spec ha
  refine ⟨t, h1, ?_⟩
  rw [List.getElem?_map] at h2
  cases hq : (openL l at_)[t]? with
  | none => rw [hq] at h2; cases h2
  | some k =>
    rw [hq] at h2
    have e : (k : Int) = x := by simpa using h2
    have e2 : (i : Int) = x := by simpa using h3
    have : k = i := by omega
    rw [this]
theorem run_det {l : List Plan} {at_ : List Nat} {is : List Nat} (h : Walk l at_ is) : ∀ is', RunRel l at_ (placesOf l at_ is) is' → is' = is := by
  induction h with
  | done h =>
    intro is' hr
    cases hr with
    | done _ => rfl
    | step h2 _ => rw [h] at h2; simp at h2
  | @step at_ i is h hw ih =>
    intro is' hr
    cases hr with
    | done h2 => rw [h2] at h; cases h
    | @step _ _ i' is'' h2 h3 =>
      obtain ⟨t, e1, e2⟩ := place_spec h
      have htl : t < (openL l at_).length := (List.getElem?_eq_some_iff.1 e2).1
      rw [placesOf, e1, pickOf] at h2
      rw [Int.toNat_natCast, Nat.mod_eq_of_lt htl, e2] at h2
      obtain rfl : i = i' := by simpa using h2
      rw [placesOf, List.tail_cons] at h3
      rw [ih _ h3]
theorem walk_len {l : List Plan} {at_ : List Nat} {is : List Nat} (h : Walk l at_ is) : (opsOf l at_ is).length = is.length ∧ (placesOf l at_ is).length = is.length := by
  induction h with
  | done _ => exact ⟨rfl, rfl⟩
  | step h _ ih =>
    obtain ⟨p, a, o, hp, ha, hoo⟩ := left_get (open_left h)
    rw [opsOf, placesOf, opAt_eq hp ha hoo]
    simp [ih.1, ih.2]

set_option maxHeartbeats 16000000 in
theorem back_calls (l : List Plan) (A : Option Addr) (n cap : Nat) (pk : List Int) (A2 : Option Addr) (n2 cap2 : Nat) (w : World) (hl : Sl tPlan w (fun _ => True) (.slice A n cap) l) (ho : ∀ p ∈ l, PlanOk p) (hp : Sl tI w (fun _ => True) (.slice A2 n2 cap2) pk) :
    Calls Try.prog 4 #[.slice A n cap, .slice A2 n2 cap2] w fun e w' => e = .returned (.bool true) ∧ Below w.heap.size w w' := by
  obtain ⟨hln, hcap, hcm⟩ := hl.length
  obtain ⟨hpn, hpc, hpm⟩ := hp.length
  have H := Lib.hid hl
  have HP := Lib.hid hp
  have HLI := Lib.hid (light_calls l A n cap 200 w hl ho (by omega) (by omega))
  clear hl hp ho
  go_enter Try.func4, Try.ntmps4
  go_wp2_with fail
  refine HLI.out.mono ?_
  rintro e w1 ⟨b, rfl, hb1⟩
  have HB1 := Lib.hid hb1
  clear HLI hb1
  cases b
  · go_wp2_with fail
    refine (lives_calls _).mono ?_
    rintro e w2 ⟨rfl, hb2⟩
    go_wp2
    go_ret
    exact ⟨rfl, HB1.out.trans (hb2.mono HB1.out.size)⟩
  by_cases h300 : 300 < n2
  · go_wp2_with fail
    refine (lives_calls _).mono ?_
    rintro e w2 ⟨rfl, hb2⟩
    go_wp2
    go_ret
    exact ⟨rfl, HB1.out.trans (hb2.mono HB1.out.size)⟩
  have HG := Lib.hid (good_calls l A n cap w1 (H.out.below HB1.out))
  go_wp2_with fail
  refine HG.out.mono ?_
  rintro e w2 ⟨rfl, hb2⟩
  have HB2 := Lib.hid (HB1.out.trans (hb2.mono HB1.out.size))
  clear HG hb2 HB1
  cases hgd : good l
  · go_wp2_with fail
    refine (lives_calls _).mono ?_
    rintro e w3 ⟨rfl, hb3⟩
    go_wp2
    go_ret
    exact ⟨rfl, HB2.out.trans (hb3.mono HB2.out.size)⟩
  have HGD := Lib.hid hgd
  clear hgd
  go_wp2_with fail
  refine (run_calls l A n cap pk A2 n2 cap2 w2 (H.out.below HB2.out) (HP.out.below HB2.out) HGD.out).mono ?_
  rintro e w3 ⟨v3, is, rfl, hrr, hs3, hl3, hb3⟩
  have hwk := hrr.walk
  obtain ⟨hlo, hlp⟩ := walk_len hwk
  obtain ⟨A3, c3, rfl, hc31, hc32, -⟩ := hs3.form
  have HB3 := Lib.hid (HB2.out.trans (hb3.mono HB2.out.size))
  have HS3 := Lib.hid (hs3.mono (ok' := fun _ => True) fun _ _ => trivial)
  have HWK := Lib.hid hwk
  clear hrr hs3 hb3 hwk HB2
  rw [hlo] at HS3 hl3 hc31 ⊢
  obtain ⟨N, hN⟩ : ∃ N, is.length = N := ⟨_, rfl⟩
  rw [hN] at hlo hlp HS3 hl3 hc31 ⊢
  clear hN
  go_wp2_with fail
  refine (picks_calls l A n cap is A3 N c3 w3 (H.out.below HB3.out) HS3.out HGD.out HWK.out hl3).mono ?_
  rintro e w4 ⟨A4, n4, c4, rfl, hs4, hb4⟩
  have hn4 := hs4.length.1
  obtain rfl : n4 = N := by omega
  have HB4 := Lib.hid (HB3.out.trans (hb4.mono HB3.out.size))
  have HS4 := Lib.hid (hs4.mono (ok' := fun _ => True) fun _ _ => trivial)
  have HT4 := Lib.hid (HS3.out.below hb4)
  clear hs4 hb4 HB3 HS3
  go_wp2_with fail
  refine (run_calls l A n cap (placesOf l (List.replicate n 0) is) A4 n4 c4 w4 (H.out.below HB4.out) HS4.out HGD.out).mono ?_
  rintro e w5 ⟨v5, is2, rfl, hrr2, hs5, hl5, hb5⟩
  have hdet := run_det HWK.out is2 hrr2
  rw [hdet] at hs5 hl5
  obtain ⟨A5, c5, rfl, hc51, hc52, -⟩ := hs5.form
  have HB5 := Lib.hid (HB4.out.trans (hb5.mono HB4.out.size))
  have HS5 := Lib.hid (hs5.mono (ok' := fun _ => True) fun _ _ => trivial)
  have HT5 := Lib.hid (HT4.out.below hb5)
  rw [hlo] at HS5 hl5 hc51 ⊢
  clear hdet hrr2 hs5 hb5 HS4 HB4 HT4
  have HW0 : Hid (Walk l (List.replicate n 0) is) := HWK
  obtain ⟨T, hT⟩ : ∃ T, opsOf l (List.replicate n 0) is = T := ⟨_, rfl⟩
  rw [hT] at HS5 HT5 hlo
  have HT0 : Hid (T.drop 0 = opsOf l (List.replicate n 0) is) := by show _ = _; rw [hT]; rfl
  clear hT HWK hlp
  go_wp2_with fail
  refine (ops_calls T A3 n4 c3 w5 HT5.out hl5).mono ?_
  rintro e w6 ⟨v6, rfl, hs6, hb6⟩
  obtain ⟨A6, c6, rfl, hc61, hc62, -⟩ := hs6.form
  rw [hlo] at hs6 hc61 ⊢
  have HB6 := Lib.hid (HB5.out.trans (hb6.mono HB5.out.size))
  have HT6 := Lib.hid (HT5.out.below hb6)
  have HS6 := Lib.hid (same_calls T A5 n4 c5 A6 c6 w6 (HS5.out.below hb6) hs6)
  clear hs6 hb6 HB5 HT5 HS5
  go_wp2_with fail
  refine HS6.out.mono ?_
  rintro e w7 ⟨rfl, hb7⟩
  have HB7 := Lib.hid (HB6.out.trans (hb7.mono HB6.out.size))
  have HT7 := Lib.hid (HT6.out.below hb7)
  clear hb7 HB6 HT6 HS6
  go_wp2
  obtain ⟨hg64, hgp⟩ := good_len HGD.out
  have HGP := Lib.hid hgp
  have hgo : goodGo [] l = true := by
    have h := HGD.out
    simp only [good, Bool.and_eq_true] at h
    exact h.2
  have HNE := Lib.hid (good_before l [] hgo).2
  clear hgp hgo
  have hX7 := Lib.hid (Below.refl w7.heap.size w7)
  go_loopw [9, 10, 12, 56] (fun _ _ _ vi w' => ∃ (i : Nat), i ≤ n ∧ vi = .int .i64 i ∧ Below w7.heap.size w7 w') (fun _ _ _ i _ => n - (intOf i).toNat)
  case atStart => exact ⟨0, by omega, rfl, hX7.out⟩
  case round =>
    obtain ⟨i, hi, rfl, hb⟩ := hrel
    have HBW := Lib.hid (HB7.out.trans (hb.mono HB7.out.size))
    by_cases hlt : i < n
    · obtain ⟨p, hp⟩ := some_at (show i < l.length by omega)
      obtain ⟨bp, offp, P, np, cp, hAe, hblp, g0, g1, hP⟩ := sl_plan (H.out.below HBW.out) hp
      have hpn := hP.length.1
      have hpc := hP.length.2
      have hp200 := (HGP.out p (List.mem_of_getElem? hp)).1
      rw [hpn] at hp200
      have hb1 := hb.alloc hb.size (.cells #[.int .i64 p.sess, .slice P np cp] 46)
      have HB1 := Lib.hid hb1
      have HP1 := Lib.hid (hP.below ((Below.refl _ _).alloc (Nat.le_refl _) (.cells #[.int .i64 p.sess, .slice P np cp] 46)))
      have HT1 := Lib.hid (HT7.out.below hb1)
      have hBx : Hid (Blk (wr.alloc (.cells #[.int .i64 p.sess, .slice P np cp] 46)) wr.heap.size #[.int .i64 p.sess, .slice P np cp] 46) := Blk.new _ _ _
      have hX1 := Lib.hid (Below.refl (wr.alloc (.cells #[.int .i64 p.sess, .slice P np cp] 46)).heap.size (wr.alloc (.cells #[.int .i64 p.sess, .slice P np cp] 46)))
      have HPN := Lib.hid hpn
      have HPI := Lib.hid hp
      have h0i : Hid ((List.replicate n 0)[i]? = some 0) := by show _ = _; rw [List.getElem?_replicate, if_pos hlt]
      subst hAe
      clear hP hb hb1 hp hpn
      go_wp2
      clear g0 g1 hblp
      generalize wr.alloc (.cells #[.int .i64 p.sess, .slice P np cp] 46) = wx at *
      generalize wr.heap.size = g9 at *
      obtain ⟨at0, hat0⟩ : ∃ at0, List.replicate n 0 = at0 := ⟨_, rfl⟩
      have HT0' := HT0
      have HW0' := HW0
      rw [hat0] at HT0' HW0' h0i
      clear hat0
      go_loopw [10, 12, 62] (fun vk _ vm w' => ∃ (m k : Nat) (at_ js : List Nat), m ≤ n4 ∧ vm = .int .i64 m ∧ vk = .int .i64 k ∧ k ≤ np ∧ Hid (T.drop m = opsOf l at_ js) ∧ Hid (Walk l at_ js) ∧ Hid (at_[i]? = some k) ∧ Below wx.heap.size wx w') (fun _ _ i _ => n4 - (intOf i).toNat)
      case atStart => exact ⟨0, 0, at0, is, by omega, rfl, rfl, by omega, HT0', HW0', h0i, hX1.out⟩
      case round =>
        clear h0i HT0' HW0'
        obtain ⟨m, k, at_, js, hm, rfl, rfl, hk, htd, hwk, hki, hb⟩ := hrel
        have HBB := Lib.hid hb
        by_cases hlt2 : m < n4
        · rcases js with _ | ⟨i', js⟩
          · exfalso
            have h := congrArg List.length htd.out
            rw [opsOf, List.length_drop] at h
            simp at h
            omega
          obtain ⟨hio, hwn⟩ : i' ∈ openL l at_ ∧ Walk l (inc at_ i') js := by
            have h := hwk.out
            cases h with
            | step h1 h2 => exact ⟨h1, h2⟩
          obtain ⟨p', a, o, hp', ha, hoo⟩ := left_get (open_left hio)
          have hoe := opAt_eq hp' ha hoo
          have htd2 := htd.out
          rw [opsOf, hoe] at htd2
          have hto : T[m]? = some o := by
            have : (T.drop m)[0]? = some o := by rw [htd2]; rfl
            simpa using this
          have htd3 : Hid (T.drop (m + 1) = opsOf l (inc at_ i') js) := by
            show _ = _
            have : (T.drop m).drop 1 = opsOf l (inc at_ i') js := by rw [htd2]; rfl
            rwa [List.drop_drop] at this
          have hos : o.sess = p'.sess := (HGP.out p' (List.mem_of_getElem? hp')).2.2.2 o (List.mem_of_getElem? hoo)
          have hinc := inc_eq ha
          obtain ⟨b2, off2, hA3, hbl2, t0, t1, t2, t3, t4, t5⟩ := sl_op (HT1.out.below hb) hto
          obtain ⟨x0, x1⟩ : wr.cell? ⟨g9, 0, none⟩ = some (.int .i64 p.sess) ∧ wr.cell? ⟨g9, 1, none⟩ = some (.slice P np cp) := ⟨(hBx.out.below hb hBx.out.lt).cell 0, (hBx.out.below hb hBx.out.lt).cell 1⟩
          have qx := (hBx.out.below hb hBx.out.lt).lt
          subst hA3
          clear htd2 htd hwk hoe hto
          obtain ⟨ok, os, ost, okey, oval, on⟩ := o
          by_cases hii : i' = i
          · subst hii
            have e1 : p' = p := by have h := HPI.out; rw [hp'] at h; injection h
            subst e1
            have e2 : a = k := by have h := hki.out; rw [ha] at h; injection h
            subst e2
            have hak : a < p'.ops.length := (List.getElem?_eq_some_iff.1 hoo).1
            rw [HPN.out] at hak
            obtain ⟨bo, offo, hPe, hblo, o0, o1, o2, o3, o4, o5⟩ := sl_op (HP1.out.below hb) hoo
            subst hPe
            simp only at hos
            subst hos
            have hnq : ∀ W, (Go.binOp .neq 48 (.agg #[.int .i64 ok, .int .i64 p'.sess, .bool ost, .string okey, .string oval, .int .i64 on]) (.agg #[.int .i64 ok, .int .i64 p'.sess, .bool ost, .string okey, .string oval, .int .i64 on])).run Try.prog W = .ok (.bool false) W := fun W => by
              have := run_neq_op ⟨ok, p'.sess, ost, okey, oval, on⟩ ⟨ok, p'.sess, ost, okey, oval, on⟩ W
              rwa [sameOp_refl] at this
            have hgd48 := guard48
            have hki2 : Hid ((inc at_ i')[i']? = some (a + 1)) := by
              show _ = _
              rw [hinc, List.getElem?_set_self (List.getElem?_eq_some_iff.1 ha).1]
            have hb2 := Lib.hid (hb.alloc hb.size (.cells #[.int .i64 ok, .int .i64 p'.sess, .bool ost, .string okey, .string oval, .int .i64 on] 48))
            clear hp' ha hoo hinc hki
            go_wp2_with fail
            go_quiet (fail)
            have hb3 := below_drewN hb2.out nq
            go_wp2
            go_roundw
            case rel => exact ⟨m + 1, a + 1, inc at_ i', js, by omega, by go_num, by go_num, by omega, htd3, hwn, hki2, hb3⟩
            case measure => simp [intOf]; omega
          · have hne : ¬ os = p.sess := by
              simp only at hos
              rw [hos]
              rcases Nat.lt_or_gt_of_ne hii with h | h
              · exact HNE.out i' i p' p h hp' HPI.out
              · exact fun e => HNE.out i i' p p' h HPI.out hp' e.symm
            have hki2 : Hid ((inc at_ i')[i]? = some k) := by
              show _ = _
              rw [hinc, List.getElem?_set_ne hii]; exact hki.out
            have hb2 := Lib.hid (hb.alloc hb.size (.cells #[.int .i64 ok, .int .i64 os, .bool ost, .string okey, .string oval, .int .i64 on] 48))
            clear hp' ha hoo hinc hki hos
            go_wp2
            go_roundw
            case rel => exact ⟨m + 1, k, inc at_ i', js, by omega, by go_num, rfl, by omega, htd3, hwn, hki2, hb2.out⟩
            case measure => simp [intOf]; omega
        · have hjs : js = [] := by
            have h := htd.out
            rw [List.drop_of_length_le (by omega)] at h
            cases js with
            | nil => rfl
            | cons i js =>
              exfalso
              have h1 := hwk.out
              cases h1 with
              | step h1 h2 =>
                obtain ⟨p, a, o, hp, ha, hoo⟩ := left_get (open_left h1)
                rw [opsOf, opAt_eq hp ha hoo] at h
                cases h
          subst hjs
          have hop : openL l at_ = [] := by
            have h := hwk.out
            cases h with
            | done h => exact h
          obtain rfl : k = np := by
            rcases Nat.lt_or_ge k np with h | h
            · exfalso
              have hm : i ∈ openL l at_ := List.mem_filter.2 ⟨List.mem_range.2 (by omega), by rw [left_some HPI.out hki.out, decide_eq_true (by rw [HPN.out]; exact h)]⟩
              rw [hop] at hm; cases hm
            · omega
          obtain ⟨x0, x1⟩ : wr.cell? ⟨g9, 0, none⟩ = some (.int .i64 p.sess) ∧ wr.cell? ⟨g9, 1, none⟩ = some (.slice P k cp) := ⟨(hBx.out.below hb hBx.out.lt).cell 0, (hBx.out.below hb hBx.out.lt).cell 1⟩
          have qx := (hBx.out.below hb hBx.out.lt).lt
          have hfin := Lib.hid (HB1.out.trans (hb.mono HB1.out.size))
          clear hb htd hwk
          go_wp2
          exact ⟨⟨i + 1, by omega, by go_num, hfin.out⟩, by simp [intOf]; omega⟩
    · go_wp2_with fail
      refine (lives_calls _).mono ?_
      rintro e wl ⟨rfl, hbl⟩
      go_wp2
      go_ret
      exact ⟨rfl, HBW.out.trans (hbl.mono HBW.out.size)⟩
end Go.Proofs.Ytidjcdfdfbomiaa
