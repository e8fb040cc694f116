import Derived.Test.YtidjcdfdfbomiaaW11
/-! Plans in the document's form. -/
namespace Go.Proofs.Ytidjcdfdfbomiaa
open Go.RowKit Go.Op

theorem info51 : (Try.prog.info? 51).map (fun i => (i.zero, i.size, i.bytes)) = some (some (.agg #[.int .i64 0, .slice none 0 0]), 2, 32) := by kernel_rfl

set_option maxHeartbeats 8000000 in
theorem plain_calls (l : List Plan) (A : Option Addr) (n cap : Nat) (w : World) (hl : Sl tPlan w (fun _ => True) (.slice A n cap) l) (ho : ∀ p ∈ l, PlanOk p) (hn : n ≤ 4398046511104) :
    Calls Try.prog 7 #[.slice A n cap] w fun e w' => ∃ v, e = .returned v ∧ Sl tPlan w' (fun _ => True) v l ∧ Below w.heap.size w w' := by
  obtain ⟨hln, hcap, hcm⟩ := hl.length
  have H := Lib.hid hl.inb
  have HOK := Lib.hid ho
  clear hl ho
  have hX := Lib.hid (Below.refl w.heap.size w)
  have hO0 := Lib.hid (Own.nil tPlan w w.heap.size 51 (fun _ => True))
  go_enter Try.func7, Try.ntmps7
  go_wp2
  go_loopw [3, 5, 6, 8, 11] (fun v _ _ _ i w' => ∃ (j : Nat), j ≤ n ∧ i = .int .i64 j ∧ Hid (Own tPlan w' w.heap.size 51 (fun _ => True) v (l.take j)) ∧ Hid (Below w.heap.size w w')) (fun _ _ _ _ i _ => n - (intOf i).toNat)
  case atStart => exact ⟨0, by omega, rfl, by rw [List.take_zero]; exact hO0, hX⟩
  case round =>
    obtain ⟨j, hj, rfl, hO, hb⟩ := hrel
    by_cases hlt : j < n
    · obtain ⟨p, hp⟩ := some_at (show j < l.length by omega)
      have htk : l.take (j + 1) = l.take j ++ [p] := by
        rw [List.take_add_one, hp]; rfl
      obtain ⟨b, off, P, np, cp, rfl, hbl, g0, g1, hP⟩ := sl_plan (H.out.below hb.out) hp
      have hpn := hP.length.1
      have hpl := (HOK.out p (List.mem_of_getElem? hp)).2
      rw [hpn] at hpl
      have hb7 : Below wr.heap.size wr ((wr.alloc (.cells #[.int .i64 p.sess, .slice P np cp] 46)).alloc (.cells #[.int .i64 p.sess, .slice none 0 0] 51)) := ((Below.refl _ _).alloc (Nat.le_refl _) _).alloc (by simp) _
      have HP := Lib.hid hP
      have HB7 := Lib.hid hb7
      have hX7 := Lib.hid (Below.refl ((wr.alloc (.cells #[.int .i64 p.sess, .slice P np cp] 46)).alloc (.cells #[.int .i64 p.sess, .slice none 0 0] 51)).heap.size ((wr.alloc (.cells #[.int .i64 p.sess, .slice P np cp] 46)).alloc (.cells #[.int .i64 p.sess, .slice none 0 0] 51)))
      have hgx : Hid (Blk ((wr.alloc (.cells #[.int .i64 p.sess, .slice P np cp] 46)).alloc (.cells #[.int .i64 p.sess, .slice none 0 0] 51)) (wr.heap.size + 1) #[.int .i64 p.sess, .slice none 0 0] 51) := blk_new (by simp)
      have hsz : ((wr.alloc (.cells #[.int .i64 p.sess, .slice P np cp] 46)).alloc (.cells #[.int .i64 p.sess, .slice none 0 0] 51)).heap.size = wr.heap.size + 2 := by simp
      have HTK := Lib.hid htk
      have HPN := Lib.hid hpn
      clear hp hP hb7 htk hpn
      go_wp2
      clear g0 g1 hbl
      generalize hw7 : (wr.alloc (.cells #[.int .i64 p.sess, .slice P np cp] 46)).alloc (.cells #[.int .i64 p.sess, .slice none 0 0] 51) = w7 at *
      clear hw7
      have hO7 := Lib.hid (Own.nil tOp w7 (wr.heap.size + 2) 52 (fun _ => False))
      generalize wr = w5 at *
      go_loopw [8, 21] (fun _ i w' => ∃ (k : Nat) (A3 : Option Addr) (c3 : Nat), k ≤ np ∧ i = .int .i64 k ∧ Hid (Blk w' (w5.heap.size + 1) #[.int .i64 p.sess, .slice A3 k c3] 51) ∧ Hid (Own tOp w' (w5.heap.size + 2) 52 (fun _ => False) (.slice A3 k c3) (p.ops.take k)) ∧ Hid (Below w5.heap.size w5 w') ∧ Hid (w5.heap.size + 2 ≤ w'.heap.size)) (fun _ i _ => np - (intOf i).toNat)
      case atStart => exact ⟨0, none, 0, by omega, rfl, hgx, by rw [List.take_zero]; exact hO7, HB7, by show _ ≤ _; omega⟩
      case round =>
        clear hO7 hgx hX7 hsz
        obtain ⟨k, A3, c3, hk, rfl, hgx, hOi, hbi, hzi⟩ := hrel
        have hx0 : wr.cell? ⟨w5.heap.size + 1, 0, none⟩ = some (.int .i64 p.sess) := hgx.out.cell 0
        have hx1 : wr.cell? ⟨w5.heap.size + 1, 1, none⟩ = some (.slice A3 k c3) := hgx.out.cell 1
        have hxl := hgx.out.lt
        by_cases hlt2 : k < np
        · obtain ⟨o, ho⟩ := some_at (show k < p.ops.length by rw [HPN.out]; exact hlt2)
          have htk2 : p.ops.take (k + 1) = p.ops.take k ++ [o] := by
            rw [List.take_add_one, ho]; rfl
          have hlk : (p.ops.take k).length = k := by rw [List.length_take, HPN.out]; omega
          obtain ⟨bo, offo, hPe, hblo, o0, o1, o2, o3, o4, o5⟩ := sl_op (HP.out.below hbi.out) ho
          have hO1 := Lib.hid (hOi.out.alloc (.cells #[.int .i64 o.kind, .int .i64 o.sess, .bool o.strict, .string o.key, .string o.val, .int .i64 o.n] 48))
          have hb1 := Lib.hid (hbi.out.alloc hbi.out.size (.cells #[.int .i64 o.kind, .int .i64 o.sess, .bool o.strict, .string o.key, .string o.val, .int .i64 o.n] 48))
          have hB1 : Hid (Below (w5.heap.size + 2) wr (wr.alloc (.cells #[.int .i64 o.kind, .int .i64 o.sess, .bool o.strict, .string o.key, .string o.val, .int .i64 o.n] 48))) := (Below.refl _ _).alloc hzi.out _
          have hgx1 := Lib.hid (hgx.out.alloc (.cells #[.int .i64 o.kind, .int .i64 o.sess, .bool o.strict, .string o.key, .string o.val, .int .i64 o.n] 48))
          have hK : Hid (tOp.K (wr.alloc (.cells #[.int .i64 o.kind, .int .i64 o.sess, .bool o.strict, .string o.key, .string o.val, .int .i64 o.n] 48)) (fun b => False ∧ (Value.slice A3 k c3).ownBlock ≠ some b) o [.int .i64 o.kind, .int .i64 o.sess, .bool o.strict, .string o.key, .string o.val, .int .i64 o.n]) := rfl
          have hne : (Value.slice A3 k c3).ownBlock ≠ some (w5.heap.size + 1) := fun e => by have := (hOi.out.lo e).1; omega
          have HTK2 := Lib.hid htk2
          have hz2 := hzi.out
          subst hPe
          clear ho htk2
          go_wp2_with (at_builtin
                       refine wpList_app1 (o := ⟨some 29, _, _, _, _, _⟩) (t := tOp) (w0 := wr) (g := wr.heap.size + 1) (cs := [.int .i64 o.kind, .int .i64 o.sess, .bool o.strict, .string o.key, .string o.val, .int .i64 o.n]) (y := o) (w5.heap.size + 2) rfl _ _ 43 52 _ 64 rfl Try.underlying43 info52 rfl (by decide) (by decide) rfl ?c1 rfl hO1.out hK.out hB1.out ?c2 ?c3 ?_; (case c1 => simp); (case c2 => simp; omega); (case c3 => omega); intro v1 w8 hO8 hB8 hg8 hv8
                       obtain ⟨A6, c6, rfl, -⟩ := hO8.form
                       have hlen : (p.ops.take k ++ [o]).length = k + 1 := (by rw [List.length_append, hlk]; rfl)
                       rw [hlen] at hO8 hv8 ⊢
                       have hgx8 : Blk w8 (w5.heap.size + 1) #[.int .i64 p.sess, .slice A3 k c3] 51 := (hg8.block (w5.heap.size + 1) (by simp; omega) (fun e => hne e.symm)).trans hgx1.out
                       have hy1 : w8.cell? ⟨w5.heap.size + 1, 1, none⟩ = some (.slice A3 k c3) := hgx8.cell 1
                       have hyl := hgx8.lt
                       have hyf := hgx8.frozen 1
                       have HGX8 := Lib.hid hgx8
                       have HO8 := Lib.hid hO8
                       have HB8 := Lib.hid hB8
                       clear hgx8 hO8 hB8 hg8 hv8)
          clear hy1 hyl hyf
          have hgx9 : Hid (Blk (w8.setCell ⟨w5.heap.size + 1, 1, none⟩ (.slice A6 (k + 1) c6)) (w5.heap.size + 1) #[.int .i64 p.sess, .slice A6 (k + 1) c6] 51) := HGX8.out.set 1 _
          have hG9 : w8.grownBy (w8.setCell ⟨w5.heap.size + 1, 1, none⟩ (.slice A6 (k + 1) c6)) (some (w5.heap.size + 1)) :=
            ⟨rfl, rfl, rfl, by simp, fun m hm hne => Below.heap_setCell _ _ _ _ (by show m ≠ w5.heap.size + 1; intro e; exact hne (by rw [e]))⟩
          have hO9 := HO8.out.grown hG9 (fun b hb e => by have := (HO8.out.lo hb).1; injection e with e; omega) (fun _ h => h.elim)
          rw [← HTK2.out] at hO9
          have HO9 := Lib.hid hO9
          have hbw8 := hbi.out.trans (HB8.out.mono (by omega))
          have HB9 := Lib.hid (below_row hbw8 hG9 hbw8.size (fun k h => by injection h with h; omega))
          have hz9 : Hid (w5.heap.size + 2 ≤ (w8.setCell ⟨w5.heap.size + 1, 1, none⟩ (.slice A6 (k + 1) c6)).heap.size) := by show _ ≤ _; have := HB8.out.size; simp; omega
          exact ⟨⟨k + 1, A6, c6, by omega, by go_num, hgx9, HO9, HB9, hz9⟩, by simp [intOf]; omega⟩
        · obtain rfl : k = np := by omega
          have hOr := Lib.hid (hO.out.below hbi.out)
          have hbr := Lib.hid (hb.out.trans (hbi.out.mono hb.out.size))
          have hlo : ∀ b, u3.ownBlock = some b → b < w5.heap.size := fun b e => (hO.out.lo e).2
          have hsl := hOi.out.sl
          rw [List.take_of_length_le (by rw [HPN.out]; exact Nat.le_refl _)] at hsl
          have hK : Hid (tPlan.K wr (fun b => True ∧ u3.ownBlock ≠ some b) p [.int .i64 p.sess, .slice A3 k c3]) :=
            plan_mk (hsl.mono fun b hb => ⟨trivial, fun e => by
              rcases hb with h | h
              · exact h
              · have := hlo _ e; omega⟩)
          have hlj : (l.take j).length ≤ j := by rw [List.length_take]; omega
          clear hlo hsl hO hb
          go_wp2_with (at_builtin; refine wpList_app1 (o := ⟨some 35, _, _, _, _, _⟩) (t := tPlan) (w0 := w) (g := wr.heap.size) (cs := [.int .i64 p.sess, .slice A3 k c3]) (y := p) w.heap.size rfl _ _ 26 51 _ 32 rfl Try.underlying26 info51 rfl (by decide) (by decide) rfl rfl rfl hOr.out hK.out hbr.out ?c2 ?c3 ?_; (case c2 => exact hbr.out.size); (case c3 => omega); intro v1 w9 hO9 hB9 _ _)
          have hO9' := hO9
          rw [← HTK.out] at hO9'
          have HO9 := Lib.hid hO9'
          have HB9 := Lib.hid hB9
          exact ⟨⟨j + 1, by omega, by go_num, HO9, HB9⟩, by simp [intOf]; omega⟩
    · go_wp2
      go_ret
      refine ⟨_, rfl, ?_, hb.out⟩
      have := hO.out.sl
      rw [List.take_of_length_le (by omega)] at this
      exact this.mono fun _ _ => trivial
end Go.Proofs.Ytidjcdfdfbomiaa
