import Derived.Test.YtnleldogmogkgaaW11
import Derived.Test.YtnleldogmogkgaaW37
/-! May pairs be, by the document. -/
namespace Go.Proofs.Ytnleldogmogkgaa
open Go.RowKit Go.Op

set_option maxHeartbeats 4000000 in
theorem rgoodl_calls (l : List Pair) (A : Option Addr) (n c : Nat) (w : World) (hl : Sl tPair w (fun _ => True) (.slice A n c) l) (hs : Short l) :
    Calls Try.prog 29 #[.slice A n c] w fun e w' => e = .returned (.bool (goodL l)) ∧ Below w.heap.size w w' := by
  obtain ⟨b, hb⟩ : ∃ b, goodL l = b := ⟨_, rfl⟩
  have h0 : b = goodGo (prev l 0) (l.drop 0) := by rw [← hb]; rfl
  have HE := Lib.hid hb
  have H0 := Lib.hid h0
  have hln := hl.length
  have HL := Lib.hid hl
  have HSH := Lib.hid hs
  obtain ⟨hln, hcap, hcm⟩ := hln
  have HLN := Lib.hid hln
  have hX := Lib.hid (Below.refl w.heap.size w)
  rw [hb]
  clear hl hs hln hb h0
  go_enter Try.func29, Try.ntmps29
  go_wp2
  go_loopw [7] (fun i wr => ∃ j : Nat, i = .int .i64 j ∧ j ≤ n ∧ Hid (b = goodGo (prev l j) (l.drop j)) ∧ Hid (Below w.heap.size w wr)) (fun i _ => n - (intOf i).toNat)
  case atStart => exact ⟨0, rfl, by omega, H0, hX⟩
  case round =>
    obtain ⟨j, rfl, hj, hg, hB⟩ := hrel
    clear H0 hX
    by_cases hlt : j < n
    · obtain ⟨p, hp⟩ := some_at (show j < l.length by rw [HLN.out]; exact hlt)
      obtain ⟨g, off, rfl, hgl, x0, x1, x2⟩ := sl_pair (HL.out.below hB.out) hp
      obtain ⟨s1, s2⟩ := HSH.out p (List.mem_of_getElem? hp)
      have hst : b = (goodP p && above (prev l j) p.key && goodGo (prev l (j + 1)) (l.drop (j + 1))) := by rw [← HE.out]; exact goodL_step (by rw [HE.out]; exact hg.out) hp
      obtain ⟨w7, hw7⟩ : ∃ w7, wr.alloc (.cells #[.string p.key, .string p.val, .bool p.dead] 35) = w7 := ⟨_, rfl⟩
      have hb7 : Below wr.heap.size wr w7 := by rw [← hw7]; exact (Below.refl _ _).alloc (Nat.le_refl _) _
      have hV7 : Blk w7 wr.heap.size #[.string p.key, .string p.val, .bool p.dead] 35 := by rw [← hw7]; exact Blk.new _ _ _
      have HB7 := Lib.hid (hB.out.trans (hb7.mono hB.out.size))
      have y0 := hV7.cell 0
      have y1 := hV7.cell 1
      have y2 : w7.cell? ⟨wr.heap.size, 2, none⟩ = some (.bool p.dead) := hV7.cell 2
      have hgw : wr.heap.size < w7.heap.size := hV7.lt
      clear hg hb7 hV7
      go_wp2_with fail
      clear hw7 x0 x1 x2
      by_cases h1 : p.key.size < 1
      · have h1' : ¬ 1 ≤ p.key.size := by omega
        have d1 : p.key.size = 0 := by omega
        have HR : Hid (false = b) := by show _ = _; rw [hst]; simp [goodP, h1']
        clear hst hp h1 h1'
        refine wp_region_later (by kernel_rfl) (by kernel_rfl) ?_
        repeat (go_big_quiet_step (fail))
        refine wpQuiet_nil ?_
        rintro _ ⟨e, rfl⟩
        have HBn := Lib.hid (HB7.out.trans ((later_below e).mono HB7.out.size))
        generalize later _ e = w8 at *
        go_wp2
        go_ret
        exact ⟨ret_bool HR.out, HBn.out⟩
      · have d1 : decide ((p.key.size : Int) < 1) = false := decide_eq_false (by omega)
        by_cases h2 : p.key.size ≤ 64
        · have d2 : decide (64 < (p.key.size : Int)) = false := decide_eq_false (by omega)
          by_cases h3 : p.val.size ≤ 256
          · have d3 : decide (256 < (p.val.size : Int)) = false := decide_eq_false (by omega)
            cases hd : p.dead
            · rw [hd] at y2
              have hgp : goodP p = true := by simp [goodP, h2, h3, hd]; omega
              rcases Nat.eq_zero_or_pos j with hj0 | hj0
              · have hj1 : decide (0 < j) = false := decide_eq_false (by omega)
                have HR : Hid (b = goodGo (prev l (j + 1)) (l.drop (j + 1))) := by show _ = _; rw [hst, hgp, show prev l j = none by rw [prev, if_pos hj0]]; rfl
                clear hj0 hgp
                clear hst hp
                refine wp_region_later (by kernel_rfl) (by kernel_rfl) ?_
                repeat (go_big_quiet_step (fail))
                refine wpQuiet_nil ?_
                rintro _ ⟨e, rfl⟩
                have HBn := Lib.hid (HB7.out.trans ((later_below e).mono HB7.out.size))
                generalize later _ e = w8 at *
                go_wp2
                go_roundw
                case rel => exact ⟨j + 1, by go_num, by omega, HR, HBn⟩
                case measure => simp [intOf]; omega
              · obtain ⟨m, hm⟩ : ∃ m, j = m + 1 := ⟨j - 1, by omega⟩
                obtain ⟨o, ho⟩ := some_at (show m < l.length by rw [HLN.out]; omega)
                obtain ⟨g', off', e', hgl', z0, -, -⟩ := sl_pair (HL.out.below HB7.out) ho
                injection e' with e'
                injection e' with e1 e2 e3
                subst e1 e2
                rw [hgp, show prev l j = some o.key by rw [hm]; simp [prev, ho], above] at hst
                have hsub : IntKind.i64.wrap ((j : Int) - 1) = (m : Int) := by
                  rw [show (j : Int) - 1 = (m : Int) by omega]; exact IntWalk.i64_in _ (by omega)
                have hm0 : (0 : Int) ≤ (m : Int) := by omega
                have hmn : (m : Int) < (n : Int) := by omega
                have hj1 : decide (0 < j) = true := decide_eq_true (by omega)
                clear hm hj0 ho hgp
                rcases klt_cases o.key p.key with ⟨k1, k2, k3⟩ | ⟨k1, k2, -⟩ | ⟨k1, k2, k3⟩
                · have HR : Hid (b = goodGo (prev l (j + 1)) (l.drop (j + 1))) := by show _ = _; rw [hst, k1]; rfl
                  have h7 : bytesLess p.key.toList o.key.toList = false := k2
                  have h8 : (p.key.toList == o.key.toList) = false := by rw [beq_key]; exact decide_eq_false (fun e => k3 e.symm)
                  clear k1 k2 k3
                  clear hst hp
                  refine wp_region_later (by kernel_rfl) (by kernel_rfl) ?_
                  repeat (go_big_quiet_step (fail))
                  refine wpQuiet_nil ?_
                  rintro _ ⟨e, rfl⟩
                  have HBn := Lib.hid (HB7.out.trans ((later_below e).mono HB7.out.size))
                  generalize later _ e = w8 at *
                  go_wp2
                  go_roundw
                  case rel => exact ⟨j + 1, by go_num, by omega, HR, HBn⟩
                  case measure => simp [intOf]; omega
                · have HR : Hid (false = b) := by show _ = _; rw [hst, k2]; rfl
                  have h7 : bytesLess p.key.toList o.key.toList = false := by rw [k1]; exact bl_irrefl _
                  have h8 : (p.key.toList == o.key.toList) = true := by rw [k1]; simp
                  clear k1 k2
                  clear hst hp
                  refine wp_region_later (by kernel_rfl) (by kernel_rfl) ?_
                  repeat (go_big_quiet_step (fail))
                  refine wpQuiet_nil ?_
                  rintro _ ⟨e, rfl⟩
                  have HBn := Lib.hid (HB7.out.trans ((later_below e).mono HB7.out.size))
                  generalize later _ e = w8 at *
                  go_wp2
                  go_ret
                  exact ⟨ret_bool HR.out, HBn.out⟩
                · have HR : Hid (false = b) := by show _ = _; rw [hst, k1]; rfl
                  have h7 : bytesLess p.key.toList o.key.toList = true := k2
                  have h8 : (p.key.toList == o.key.toList) = false := by rw [beq_key]; exact decide_eq_false (fun e => k3 e.symm)
                  clear k1 k2 k3
                  clear hst hp
                  refine wp_region_later (by kernel_rfl) (by kernel_rfl) ?_
                  repeat (go_big_quiet_step (fail))
                  refine wpQuiet_nil ?_
                  rintro _ ⟨e, rfl⟩
                  have HBn := Lib.hid (HB7.out.trans ((later_below e).mono HB7.out.size))
                  generalize later _ e = w8 at *
                  go_wp2
                  go_ret
                  exact ⟨ret_bool HR.out, HBn.out⟩
            · rw [hd] at y2
              by_cases h4 : p.val.toList = []
              · have hgp : goodP p = true := by simp [goodP, h2, h3, h4]; omega
                rcases Nat.eq_zero_or_pos j with hj0 | hj0
                · have hj1 : decide (0 < j) = false := decide_eq_false (by omega)
                  have HR : Hid (b = goodGo (prev l (j + 1)) (l.drop (j + 1))) := by show _ = _; rw [hst, hgp, show prev l j = none by rw [prev, if_pos hj0]]; rfl
                  clear hj0 hgp
                  clear hst hp
                  refine wp_region_later (by kernel_rfl) (by kernel_rfl) ?_
                  repeat (go_big_quiet_step (fail))
                  refine wpQuiet_nil ?_
                  rintro _ ⟨e, rfl⟩
                  have HBn := Lib.hid (HB7.out.trans ((later_below e).mono HB7.out.size))
                  generalize later _ e = w8 at *
                  go_wp2
                  go_roundw
                  case rel => exact ⟨j + 1, by go_num, by omega, HR, HBn⟩
                  case measure => simp [intOf]; omega
                · obtain ⟨m, hm⟩ : ∃ m, j = m + 1 := ⟨j - 1, by omega⟩
                  obtain ⟨o, ho⟩ := some_at (show m < l.length by rw [HLN.out]; omega)
                  obtain ⟨g', off', e', hgl', z0, -, -⟩ := sl_pair (HL.out.below HB7.out) ho
                  injection e' with e'
                  injection e' with e1 e2 e3
                  subst e1 e2
                  rw [hgp, show prev l j = some o.key by rw [hm]; simp [prev, ho], above] at hst
                  have hsub : IntKind.i64.wrap ((j : Int) - 1) = (m : Int) := by
                    rw [show (j : Int) - 1 = (m : Int) by omega]; exact IntWalk.i64_in _ (by omega)
                  have hm0 : (0 : Int) ≤ (m : Int) := by omega
                  have hmn : (m : Int) < (n : Int) := by omega
                  have hj1 : decide (0 < j) = true := decide_eq_true (by omega)
                  clear hm hj0 ho hgp
                  rcases klt_cases o.key p.key with ⟨k1, k2, k3⟩ | ⟨k1, k2, -⟩ | ⟨k1, k2, k3⟩
                  · have HR : Hid (b = goodGo (prev l (j + 1)) (l.drop (j + 1))) := by show _ = _; rw [hst, k1]; rfl
                    have h7 : bytesLess p.key.toList o.key.toList = false := k2
                    have h8 : (p.key.toList == o.key.toList) = false := by rw [beq_key]; exact decide_eq_false (fun e => k3 e.symm)
                    clear k1 k2 k3
                    clear hst hp
                    refine wp_region_later (by kernel_rfl) (by kernel_rfl) ?_
                    repeat (go_big_quiet_step (fail))
                    refine wpQuiet_nil ?_
                    rintro _ ⟨e, rfl⟩
                    have HBn := Lib.hid (HB7.out.trans ((later_below e).mono HB7.out.size))
                    generalize later _ e = w8 at *
                    go_wp2
                    go_roundw
                    case rel => exact ⟨j + 1, by go_num, by omega, HR, HBn⟩
                    case measure => simp [intOf]; omega
                  · have HR : Hid (false = b) := by show _ = _; rw [hst, k2]; rfl
                    have h7 : bytesLess p.key.toList o.key.toList = false := by rw [k1]; exact bl_irrefl _
                    have h8 : (p.key.toList == o.key.toList) = true := by rw [k1]; simp
                    clear k1 k2
                    clear hst hp
                    refine wp_region_later (by kernel_rfl) (by kernel_rfl) ?_
                    repeat (go_big_quiet_step (fail))
                    refine wpQuiet_nil ?_
                    rintro _ ⟨e, rfl⟩
                    have HBn := Lib.hid (HB7.out.trans ((later_below e).mono HB7.out.size))
                    generalize later _ e = w8 at *
                    go_wp2
                    go_ret
                    exact ⟨ret_bool HR.out, HBn.out⟩
                  · have HR : Hid (false = b) := by show _ = _; rw [hst, k1]; rfl
                    have h7 : bytesLess p.key.toList o.key.toList = true := k2
                    have h8 : (p.key.toList == o.key.toList) = false := by rw [beq_key]; exact decide_eq_false (fun e => k3 e.symm)
                    clear k1 k2 k3
                    clear hst hp
                    refine wp_region_later (by kernel_rfl) (by kernel_rfl) ?_
                    repeat (go_big_quiet_step (fail))
                    refine wpQuiet_nil ?_
                    rintro _ ⟨e, rfl⟩
                    have HBn := Lib.hid (HB7.out.trans ((later_below e).mono HB7.out.size))
                    generalize later _ e = w8 at *
                    go_wp2
                    go_ret
                    exact ⟨ret_bool HR.out, HBn.out⟩
              · have h4' : p.val.toList.isEmpty = false := by simpa using h4
                have HR : Hid (false = b) := by show _ = _; rw [hst]; simp [goodP, h4, hd]
                clear hst hp
                refine wp_region_later (by kernel_rfl) (by kernel_rfl) ?_
                repeat (go_big_quiet_step (fail))
                refine wpQuiet_nil ?_
                rintro _ ⟨e, rfl⟩
                have HBn := Lib.hid (HB7.out.trans ((later_below e).mono HB7.out.size))
                generalize later _ e = w8 at *
                go_wp2
                go_ret
                exact ⟨ret_bool HR.out, HBn.out⟩
          · have d3 : decide (256 < (p.val.size : Int)) = true := decide_eq_true (by omega)
            have HR : Hid (false = b) := by show _ = _; rw [hst]; simp [goodP, h3]
            clear hst hp
            refine wp_region_later (by kernel_rfl) (by kernel_rfl) ?_
            repeat (go_big_quiet_step (fail))
            refine wpQuiet_nil ?_
            rintro _ ⟨e, rfl⟩
            have HBn := Lib.hid (HB7.out.trans ((later_below e).mono HB7.out.size))
            generalize later _ e = w8 at *
            go_wp2
            go_ret
            exact ⟨ret_bool HR.out, HBn.out⟩
        · have d2 : decide (64 < (p.key.size : Int)) = true := decide_eq_true (by omega)
          have HR : Hid (false = b) := by show _ = _; rw [hst]; simp [goodP, h2]
          clear hst hp
          refine wp_region_later (by kernel_rfl) (by kernel_rfl) ?_
          repeat (go_big_quiet_step (fail))
          refine wpQuiet_nil ?_
          rintro _ ⟨e, rfl⟩
          have HBn := Lib.hid (HB7.out.trans ((later_below e).mono HB7.out.size))
          generalize later _ e = w8 at *
          go_wp2
          go_ret
          exact ⟨ret_bool HR.out, HBn.out⟩
    · have HR : Hid (true = b) := by show _ = _; rw [hg.out, List.drop_of_length_le (by rw [HLN.out]; omega)]; rfl
      clear hg
      go_wp2
      go_ret
      exact ⟨ret_bool HR.out, hB.out⟩
end Go.Proofs.Ytnleldogmogkgaa
