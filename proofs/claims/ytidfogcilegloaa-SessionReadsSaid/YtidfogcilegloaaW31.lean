import Derived.Test.YtidfogcilegloaaW29
import Derived.Test.YtidfogcilegloaaW16
import Derived.Test.YtidfogcilegloaaJ1
import Derived.WalkLawsBesides
/-! Same. -/
namespace Go.Proofs.Ytidfogcilegloaa
open Go.RowKit Go.Op

theorem guard35 : Try.prog.eqGuardType Try.prog.depth 68 = false := by kernel_rfl
theorem stood35 : Try.prog.stoodInHeld 68 = false := by kernel_rfl
theorem neq35 (p : Pair) (W : World) : (Go.binOp .neq 68 (.agg #[.string p.key, .string p.val, .bool p.dead]) (.agg #[.string p.key, .string p.val, .bool p.dead])).run Try.prog W = .ok (.bool false) W := by
  have hst : Try.prog.underlying 68 = some (.struct (Try.prog.fieldsOf 68)) := by rw [Program.fieldsOf, Try.underlying68]
  have u9 := Try.underlying9
  have u4 := Try.underlying4
  rw [run_neq_struct, run_equalIn_struct _ _ _ _ _ hst stood35]
  simp only [Program.fieldsOf, Try.underlying68]
  simp [Op.eqFields, go_sem, part, u9, u4]

set_option maxHeartbeats 2000000 in
theorem same_calls (l : List Pair) (A B : Option Addr) (n c d : Nat) (w : World) (hl : Sl tPair w (fun _ => True) (.slice A n c) l) (hm : Sl tPair w (fun _ => True) (.slice B n d) l) :
    Calls Try.prog 23 #[.slice A n c, .slice B n d] w fun e w' => e = .returned (.bool true) ∧ Below w.heap.size w w' := by
  obtain ⟨hln, hcap, hcm⟩ := hl.length
  have hcap2 := hm.length.2.1
  have HLN := Lib.hid hln
  have HL := Lib.hid hl
  have HM := Lib.hid hm
  have hX := Lib.hid (Below.refl w.heap.size w)
  clear hl hm hln
  go_enter Try.func23, Try.ntmps23
  go_wp2
  go_loopw [13] (fun i wr => ∃ j : Nat, i = .int .i64 j ∧ Hid (Below w.heap.size w wr) ∧ j ≤ n) (fun i _ => n - (intOf i).toNat)
  case atStart => exact ⟨0, rfl, hX, by omega⟩
  case round =>
    obtain ⟨j, rfl, hB, hjn⟩ := hrel
    by_cases hlt : j < n
    · obtain ⟨p, hp⟩ := some_at (show j < l.length by rw [HLN.out]; exact hlt)
      obtain ⟨g, off, rfl, hg, x0, x1, x2⟩ := sl_pair (HL.out.below hB.out) hp
      obtain ⟨g2, off2, rfl, hg2, y0, y1, y2⟩ := sl_pair (HM.out.below hB.out) hp
      have hne := neq35 p
      clear hp
      go_wp2
      go_quiet (fail)
      have HBn := Lib.hid (below_drewN hB.out nq)
      go_wp2
      go_roundw
      case rel => exact ⟨j + 1, by go_num, HBn, by omega⟩
      case measure => simp [intOf]; omega
    · go_wp2
      go_ret
      exact ⟨rfl, hB.out⟩

end Go.Proofs.Ytidfogcilegloaa
