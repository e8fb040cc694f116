import Derived.Test.YtidjcdfdfbomiaaW8
/-! Ops in the document's form; the very same Ops. -/
namespace Go.Proofs.Ytidjcdfdfbomiaa
open Go.RowKit Go.Op

theorem info52 : (Try.prog.info? 52).map (fun i => (i.zero, i.size, i.bytes)) = some (some (.agg #[.int .i64 0, .int .i64 0, .bool false, .string ⟨#[]⟩, .string ⟨#[]⟩, .int .i64 0]), 6, 64) := by kernel_rfl
theorem guard52 : Try.prog.eqGuardType Try.prog.depth 52 = false := by kernel_rfl
theorem stood52 : Try.prog.stoodInHeld 52 = false := by kernel_rfl
set_option maxHeartbeats 2000000 in
theorem run_neq_op52 (o : HOp) (W : World) : (Go.binOp .neq 52 (.agg #[.int .i64 o.kind, .int .i64 o.sess, .bool o.strict, .string o.key, .string o.val, .int .i64 o.n]) (.agg #[.int .i64 o.kind, .int .i64 o.sess, .bool o.strict, .string o.key, .string o.val, .int .i64 o.n])).run Try.prog W = .ok (.bool false) W := by
  have hst : Try.prog.underlying 52 = some (.struct (Try.prog.fieldsOf 52)) := by rw [Program.fieldsOf, Try.underlying52]
  have u9 := Try.underlying9
  have u4 := Try.underlying4
  have u3 := Try.underlying3
  rw [run_neq_struct, run_equalIn_struct _ _ _ _ _ hst stood52]
  simp only [Program.fieldsOf, Try.underlying52]
  simp [Op.eqFields, go_sem, part, u9, u4, u3]

set_option maxHeartbeats 2000000 in
theorem ops_calls (l : List HOp) (A : Option Addr) (n cap : Nat) (w : World) (hl : Sl tOp w (fun _ => True) (.slice A n cap) l) (hn : n ≤ 12800) :
    Calls Try.prog 16 #[.slice A n cap] w fun e w' => ∃ v, e = .returned v ∧ Sl tOp w' (fun _ => True) v l ∧ Below w.heap.size w w' := by
  obtain ⟨hln, hcap, hcm⟩ := hl.length
  have H := Lib.hid hl
  clear hl
  have hX := Lib.hid (Below.refl w.heap.size w)
  have hO0 := Lib.hid (Own.nil tOp w w.heap.size 52 (fun _ => False))
  go_enter Try.func16, Try.ntmps16
  go_wp2
  go_loopw [3, 5, 8] (fun v _ i w' => ∃ (j : Nat), j ≤ n ∧ i = .int .i64 j ∧ Hid (Own tOp w' w.heap.size 52 (fun _ => False) v (l.take j)) ∧ Hid (Below w.heap.size w w')) (fun _ _ i _ => n - (intOf i).toNat)
  case atStart => exact ⟨0, by omega, rfl, by rw [List.take_zero]; exact hO0, hX⟩
  case round =>
    obtain ⟨j, hj, rfl, hO, hb⟩ := hrel
    by_cases hlt : j < n
    · obtain ⟨o, ho⟩ := some_at (show j < l.length by omega)
      have htk : l.take (j + 1) = l.take j ++ [o] := by
        rw [List.take_add_one, ho]; rfl
      obtain ⟨b, off, rfl, hbl, g0, g1, g2, g3, g4, g5⟩ := sl_op (H.out.below hb.out) ho
      have hO1 := Lib.hid (hO.out.alloc (.cells #[.int .i64 o.kind, .int .i64 o.sess, .bool o.strict, .string o.key, .string o.val, .int .i64 o.n] 48))
      have hb1 := Lib.hid (hb.out.alloc hb.out.size (.cells #[.int .i64 o.kind, .int .i64 o.sess, .bool o.strict, .string o.key, .string o.val, .int .i64 o.n] 48))
      have hK : Hid (tOp.K (wr.alloc (.cells #[.int .i64 o.kind, .int .i64 o.sess, .bool o.strict, .string o.key, .string o.val, .int .i64 o.n] 48)) (fun b => False ∧ u3.ownBlock ≠ some b) o [.int .i64 o.kind, .int .i64 o.sess, .bool o.strict, .string o.key, .string o.val, .int .i64 o.n]) := rfl
      have hlj : (l.take j).length ≤ 12800 := by rw [List.length_take]; omega
      have HTK := Lib.hid htk
      clear ho htk
      go_wp2_with (at_builtin; refine wpList_app1 (o := ⟨some 15, _, _, _, _, _⟩) (t := tOp) (w0 := w) (g := wr.heap.size + 1) (cs := [.int .i64 o.kind, .int .i64 o.sess, .bool o.strict, .string o.key, .string o.val, .int .i64 o.n]) (y := o) w.heap.size rfl _ _ 43 52 _ 64 rfl Try.underlying43 info52 rfl (by decide) (by decide) rfl ?c1 rfl hO1.out hK.out hb1.out ?c2 ?c3 ?_; (case c1 => simp); (case c2 => exact hb1.out.size); (case c3 => omega); intro v1 w9 hO9 hB9 _ _)
      have hO9' := Lib.hid hO9
      have hB9' := Lib.hid hB9
      go_roundw
      case rel => exact ⟨j + 1, by omega, by go_num, by rw [HTK.out]; exact hO9', hB9'⟩
      case measure => simp [intOf]; omega
    · go_wp2
      go_ret
      refine ⟨_, rfl, ?_, hb.out⟩
      have := hO.out.sl
      rw [List.take_of_length_le (by omega)] at this
      exact this.mono fun _ _ => trivial

set_option maxHeartbeats 2000000 in
theorem same_calls (l : List HOp) (A : Option Addr) (n cap : Nat) (B : Option Addr) (cap2 : Nat) (w : World) (hl : Sl tOp w (fun _ => True) (.slice A n cap) l) (hm : Sl tOp w (fun _ => True) (.slice B n cap2) l) :
    Calls Try.prog 15 #[.slice A n cap, .slice B n cap2] w fun e w' => e = .returned (.bool true) ∧ Below w.heap.size w w' := by
  obtain ⟨hln, hcap, hcm⟩ := hl.length
  obtain ⟨-, hcap2, hcm2⟩ := hm.length
  have H := Lib.hid hl
  have H2 := Lib.hid hm
  clear hl hm
  have hX := Lib.hid (Below.refl w.heap.size w)
  go_enter Try.func15, Try.ntmps15
  go_wp2
  go_loopw [5, 13] (fun _ i w' => ∃ (j : Nat), j ≤ n ∧ i = .int .i64 j ∧ Below w.heap.size w w') (fun _ i _ => n - (intOf i).toNat)
  case atStart => exact ⟨0, by omega, rfl, hX.out⟩
  case round =>
    obtain ⟨j, hj, rfl, hb⟩ := hrel
    by_cases hlt : j < n
    · obtain ⟨o, ho⟩ := some_at (show j < l.length by omega)
      obtain ⟨b, off, rfl, hbl, g0, g1, g2, g3, g4, g5⟩ := sl_op (H.out.below hb) ho
      obtain ⟨b', off', rfl, hbl', k0, k1, k2, k3, k4, k5⟩ := sl_op (H2.out.below hb) ho
      have hnq := run_neq_op52 o
      have hgd := guard52
      clear ho
      go_wp2_with fail
      go_quiet (fail)
      have hb' := below_drewN hb nq
      go_wp2
      go_roundw
      case rel => exact ⟨j + 1, by omega, by go_num, hb'⟩
      case measure => simp [intOf]; omega
    · go_wp2
      go_ret
      exact ⟨rfl, hb⟩
end Go.Proofs.Ytidjcdfdfbomiaa
