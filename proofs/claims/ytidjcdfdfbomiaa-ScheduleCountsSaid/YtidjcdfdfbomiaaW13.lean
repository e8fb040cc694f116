import Derived.Test.YtidjcdfdfbomiaaW12
/-! The document's Good. -/
namespace Go.Proofs.Ytidjcdfdfbomiaa
open Go.RowKit Go.Op

def seenS (l : List Plan) (j : Nat) : List Int := ((l.take j).map (·.sess)).reverse
theorem seenS_step {l : List Plan} {j : Nat} {p : Plan} (h : l[j]? = some p) : p.sess :: seenS l j = seenS l (j + 1) := by
  unfold seenS
  rw [List.take_add_one, h]
  simp
theorem seenS_any (l : List Plan) (j : Nat) (s : Int) : (seenS l j).contains s = (l.take j).any fun q => q.sess == s := by
  rw [Bool.eq_iff_iff]
  simp only [seenS, List.contains_reverse, List.contains_iff_mem, List.mem_map, List.any_eq_true, beq_iff_eq]
theorem any_next {α : Type} {q : α → Bool} {l : List α} {k : Nat} {x : α} (h : l[k]? = some x) : (l.drop k).any q = (q x || (l.drop (k + 1)).any q) := by
  obtain ⟨hj, e⟩ := List.getElem?_eq_some_iff.1 h
  rw [List.drop_eq_getElem_cons hj, e]; rfl

set_option maxHeartbeats 8000000 in
theorem rgood_calls (l : List Plan) (A : Option Addr) (n cap : Nat) (w : World) (hl : Sl tPlan w (fun _ => True) (.slice A n cap) l) :
    Calls Try.prog 17 #[.slice A n cap] w fun e w' => e = .returned (.bool (good l)) ∧ Below w.heap.size w w' := by
  obtain ⟨hln, hcap, hcm⟩ := hl.length
  have H := Lib.hid hl
  clear hl
  have hX := Lib.hid (Below.refl w.heap.size w)
  by_cases h70 : 64 < n
  · have hv : good l = false := by unfold good; rw [decide_eq_false (by omega)]; rfl
    go_enter Try.func17, Try.ntmps17
    go_wp2
    go_ret
    exact ⟨ret_bool hv.symm, hX.out⟩
  have hv : Hid (good l = goodGo (seenS l 0) (l.drop 0)) := by show _ = _; unfold good; rw [decide_eq_true (by omega)]; rfl
  go_enter Try.func17, Try.ntmps17
  go_wp2
  go_loopw [3, 4, 6, 8, 14] (fun _ _ _ _ i w' => ∃ (j : Nat), j ≤ n ∧ i = .int .i64 j ∧ Hid (good l = goodGo (seenS l j) (l.drop j)) ∧ Hid (Below w.heap.size w w')) (fun _ _ _ _ i _ => n - (intOf i).toNat)
  case atStart => exact ⟨0, by omega, rfl, hv, hX⟩
  case round =>
    clear hv
    obtain ⟨j, hj, rfl, hg, hb⟩ := hrel
    by_cases hlt : j < n
    · obtain ⟨p, hp⟩ := some_at (show j < l.length by omega)
      obtain ⟨b, off, P, np, cp, hAe, hbl, g0, g1, hP⟩ := sl_plan (H.out.below hb.out) hp
      have hst := Lib.hid (hg.out.trans (goodGo_step (seenS l j) hp))
      have hss := Lib.hid (seenS_step hp)
      have hpn := hP.length.1
      have hPc := hP.length.2
      have hb0 : Below wr.heap.size wr (wr.alloc (.cells #[.int .i64 p.sess, .slice P np cp] 51)) := (Below.refl _ _).alloc (Nat.le_refl _) _
      have hb1 := Lib.hid (hb.out.alloc hb.out.size (.cells #[.int .i64 p.sess, .slice P np cp] 51))
      have hB1 : Hid (Blk (wr.alloc (.cells #[.int .i64 p.sess, .slice P np cp] 51)) wr.heap.size #[.int .i64 p.sess, .slice P np cp] 51) := Blk.new _ _ _
      have HP := Lib.hid (hP.below hb0)
      have hX1 := Lib.hid (Below.refl (wr.alloc (.cells #[.int .i64 p.sess, .slice P np cp] 51)).heap.size (wr.alloc (.cells #[.int .i64 p.sess, .slice P np cp] 51)))
      subst hAe
      clear hp hP hg hb0
      by_cases h1 : p.sess < 1
      · have hv2 : Hid (good l = false) := by show _ = _; rw [hst.out, decide_eq_false (by omega)]; rfl
        go_wp2
        go_ret
        exact ⟨ret_bool hv2.out.symm, hb1.out⟩
      by_cases h2 : 8 < p.sess
      · have hv2 : Hid (good l = false) := by show _ = _; rw [hst.out, decide_eq_true (show 1 ≤ p.sess by omega), decide_eq_false (show ¬ p.sess ≤ 8 by omega)]; rfl
        go_wp2
        go_ret
        exact ⟨ret_bool hv2.out.symm, hb1.out⟩
      by_cases h4 : 200 < np
      · have hv2 : Hid (good l = false) := by show _ = _; rw [hst.out, decide_eq_false (show ¬ p.ops.length ≤ 200 by omega)]; simp
        go_wp2
        go_ret
        exact ⟨ret_bool hv2.out.symm, hb1.out⟩
      have hst2 : Hid (good l = (!(seenS l j).contains p.sess && ((p.ops.all fun o => o.sess == p.sess) && goodGo (p.sess :: seenS l j) (l.drop (j + 1))))) := by
        show _ = _
        rw [hst.out, decide_eq_true (show 1 ≤ p.sess by omega), decide_eq_true (show p.sess ≤ 8 by omega), decide_eq_true (show p.ops.length ≤ 200 by omega)]; rfl
      clear hst
      have HPN := Lib.hid hpn
      clear hpn
      go_wp2
      clear g0 g1 hbl
      generalize wr.alloc (.cells #[.int .i64 p.sess, .slice P np cp] 51) = w3 at *
      generalize wr.heap.size = g4 at *
      have hall0 : Hid ((p.ops.all fun o => o.sess == p.sess) = ((p.ops.drop 0).all fun o => o.sess == p.sess)) := rfl
      go_loopw [6, 36] (fun _ i w' => ∃ (k : Nat), k ≤ np ∧ i = .int .i64 k ∧ Hid ((p.ops.all fun o => o.sess == p.sess) = ((p.ops.drop k).all fun o => o.sess == p.sess)) ∧ Hid (Below w3.heap.size w3 w')) (fun _ i _ => np - (intOf i).toNat)
      case atStart => exact ⟨0, by omega, rfl, hall0, hX1⟩
      case round =>
        clear hall0
        obtain ⟨k, hk, rfl, hall, hbi⟩ := hrel
        have x0 : wr.cell? ⟨g4, 0, none⟩ = some (.int .i64 p.sess) := (hB1.out.below hbi.out hB1.out.lt).cell 0
        have xl := (hB1.out.below hbi.out hB1.out.lt).lt
        by_cases hlt2 : k < np
        · obtain ⟨o, ho⟩ := some_at (show k < p.ops.length by rw [HPN.out]; exact hlt2)
          have hall2 : Hid ((p.ops.all fun o => o.sess == p.sess) = ((o.sess == p.sess) && (p.ops.drop (k + 1)).all fun o => o.sess == p.sess)) := by
            show _ = _
            rw [hall.out]
            obtain ⟨hj', e⟩ := List.getElem?_eq_some_iff.1 ho
            rw [List.drop_eq_getElem_cons hj', e]; rfl
          obtain ⟨bo, offo, hPe, hblo, o0, o1, o2, o3, o4, o5⟩ := sl_op (HP.out.below hbi.out) ho
          have hbf := Lib.hid (hb1.out.trans ((hbi.out.alloc hbi.out.size (.cells #[.int .i64 o.kind, .int .i64 o.sess, .bool o.strict, .string o.key, .string o.val, .int .i64 o.n] 52)).mono hb1.out.size))
          have hbn := Lib.hid (hbi.out.alloc hbi.out.size (.cells #[.int .i64 o.kind, .int .i64 o.sess, .bool o.strict, .string o.key, .string o.val, .int .i64 o.n] 52))
          subst hPe
          clear ho hall
          by_cases he : o.sess = p.sess
          · have hall3 : Hid ((p.ops.all fun o => o.sess == p.sess) = ((p.ops.drop (k + 1)).all fun o => o.sess == p.sess)) := by show _ = _; rw [hall2.out, he]; simp
            obtain ⟨ok, os, ost, okey, oval, on⟩ := o
            simp only at he
            subst he
            go_wp2
            go_roundw
            case rel => exact ⟨k + 1, by omega, by go_num, hall3, hbn⟩
            case measure => simp [intOf]; omega
          · have hv2 : Hid (good l = false) := by
              show _ = _
              rw [hst2.out, hall2.out, beq_eq_false_iff_ne.2 he]; simp
            go_wp2
            go_ret
            exact ⟨ret_bool hv2.out.symm, hbf.out⟩
        · have hst3 : Hid (good l = (!(seenS l j).contains p.sess && goodGo (seenS l (j + 1)) (l.drop (j + 1)))) := by
            show _ = _
            rw [hst2.out, hall.out, List.drop_of_length_le (by rw [HPN.out]; omega), hss.out]; rfl
          have hb4 := Lib.hid (hb1.out.trans (hbi.out.mono hb1.out.size))
          have hB4 := Lib.hid (hB1.out.below hbi.out hB1.out.lt)
          have hhi : ∀ W' : World, (Instr.slice 26 (.slice (some ⟨b, off, none⟩) n cap) none (some (.int .i64 (j : Int))) none).run Try.prog W' = .ok (.slice (some ⟨b, off, none⟩) j cap) W' := fun W' =>
            run_slice_hi (sz := 2) Try.underlying26 (by kernel_rfl) _ (by omega) W'
          have HT := Lib.hid (H.out.take (k := j) (by omega))
          have hlj : (l.take j).length = j := by rw [List.length_take]; omega
          have hX4 := Lib.hid (Below.refl wr.heap.size wr)
          clear hst2 hall hbi x0 xl hX1 hB1 hb1 HP
          go_wp2
          generalize wr = w4 at *
          have hany0 : Hid ((seenS l j).contains p.sess = ((l.take j).drop 0).any fun q => q.sess == p.sess) := seenS_any l j p.sess
          go_loopw [8, 50] (fun _ i w' => ∃ (k : Nat), k ≤ j ∧ i = .int .i64 k ∧ Hid ((seenS l j).contains p.sess = ((l.take j).drop k).any fun q => q.sess == p.sess) ∧ Hid (Below w4.heap.size w4 w')) (fun _ i _ => j - (intOf i).toNat)
          case atStart => exact ⟨0, by omega, rfl, hany0, hX4⟩
          case round =>
            clear hany0 hk hlt2
            obtain ⟨m, hm, rfl, hany, hbi⟩ := hrel
            have hb5 := Lib.hid (hb4.out.trans (hbi.out.mono hb4.out.size))
            have x0 : wr.cell? ⟨g4, 0, none⟩ = some (.int .i64 p.sess) := (hB4.out.below hbi.out hB4.out.lt).cell 0
            have xl := (hB4.out.below hbi.out hB4.out.lt).lt
            by_cases hlt3 : m < j
            · obtain ⟨q, hq⟩ := some_at (show m < (l.take j).length by omega)
              have hany2 : Hid ((seenS l j).contains p.sess = ((q.sess == p.sess) || ((l.take j).drop (m + 1)).any fun q => q.sess == p.sess)) := hany.out.trans (any_next hq)
              obtain ⟨bq, offq, Q, nq, cq, hAe2, hblq, q0, q1, hQ⟩ := sl_plan (HT.out.below hb5.out) hq
              injection hAe2 with e1
              injection e1 with e2 e3
              subst e2 e3
              have hbf := Lib.hid (hb5.out.alloc hb5.out.size (.cells #[.int .i64 q.sess, .slice Q nq cq] 51))
              have hbn := Lib.hid (hbi.out.alloc hbi.out.size (.cells #[.int .i64 q.sess, .slice Q nq cq] 51))
              clear hq hany hQ
              by_cases he : q.sess = p.sess
              · have hv2 : Hid (good l = false) := by
                  show _ = _
                  rw [hst3.out, hany2.out, he]; simp
                rw [he] at hbf
                go_wp2
                go_ret
                exact ⟨ret_bool hv2.out.symm, hbf.out⟩
              · have hany3 : Hid ((seenS l j).contains p.sess = ((l.take j).drop (m + 1)).any fun q => q.sess == p.sess) := by
                  show _ = _; rw [hany2.out, beq_eq_false_iff_ne.2 he]; rfl
                go_wp2
                go_roundw
                case rel => exact ⟨m + 1, by omega, by go_num, hany3, hbn⟩
                case measure => simp [intOf]; omega
            · have hst4 : Hid (good l = goodGo (seenS l (j + 1)) (l.drop (j + 1))) := by
                show _ = _
                rw [hst3.out, hany.out, List.drop_of_length_le (by omega)]; rfl
              go_wp2
              exact ⟨⟨j + 1, by omega, by go_num, hst4, hb5⟩, by simp [intOf]; omega⟩
    · have hv2 : Hid (good l = true) := hg.out.trans (goodGo_end _ (by omega))
      go_wp2
      go_ret
      exact ⟨ret_bool hv2.out.symm, hb.out⟩
end Go.Proofs.Ytidjcdfdfbomiaa
