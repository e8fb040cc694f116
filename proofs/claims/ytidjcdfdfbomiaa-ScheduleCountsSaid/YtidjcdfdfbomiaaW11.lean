import Derived.Test.YtidjcdfdfbomiaaW10
import Derived.Test.YtidjcdfdfbomiaaPure4
/-! The document's side: the very same numbers; the plans that have Ops left. -/
namespace Go.Proofs.Ytidjcdfdfbomiaa
open Go.RowKit Go.Op

set_option maxHeartbeats 2000000 in
theorem ints_calls (l : List Int) (A : Option Addr) (n cap : Nat) (B : Option Addr) (cap2 : Nat) (w : World) (hl : Sl tI w (fun _ => True) (.slice A n cap) l) (hm : Sl tI w (fun _ => True) (.slice B n cap2) l) :
    Calls Try.prog 11 #[.slice A n cap, .slice B n cap2] w fun e w' => e = .returned (.bool true) ∧ Below w.heap.size w w' := by
  obtain ⟨hln, hcap, hcm⟩ := hl.length
  obtain ⟨-, hcap2, hcm2⟩ := hm.length
  have H := Lib.hid hl
  have H2 := Lib.hid hm
  clear hl hm
  have hX := Lib.hid (Below.refl w.heap.size w)
  go_enter Try.func11, Try.ntmps11
  go_wp2
  go_loopw [5, 13] (fun _ i w' => ∃ (j : Nat), j ≤ n ∧ i = .int .i64 j ∧ Below w.heap.size w w') (fun _ i _ => n - (intOf i).toNat)
  case atStart => exact ⟨0, by omega, rfl, hX.out⟩
  case round =>
    obtain ⟨j, hj, rfl, hb⟩ := hrel
    by_cases hlt : j < n
    · obtain ⟨z, hz⟩ := some_at (show j < l.length by omega)
      obtain ⟨b, off, rfl, hbl, g0⟩ := sl_int (H.out.below hb) hz
      obtain ⟨b', off', rfl, hbl', k0⟩ := sl_int (H2.out.below hb) hz
      clear hz
      go_wp2_with fail
      go_quiet (fail)
      have hb' := below_drewN hb nq
      go_wp2
      go_roundw
      case rel => exact ⟨j + 1, by omega, by go_num, hb'⟩
      case measure => simp [intOf]; omega
    · go_wp2
      go_ret
      exact ⟨rfl, hb⟩

/-- The counts of what each plan has done, in a block. -/
def Ats (w : World) (ga : Nat) (at_ : List Nat) : Prop := ∃ cs : Array Value, Blk w ga cs 3 ∧ cs.toList = at_.map fun a : Nat => Value.int .i64 (a : Int)
section
variable {w w' : World} {ga : Nat} {at_ : List Nat}
theorem Ats.lt (h : Ats w ga at_) : ga < w.heap.size := by obtain ⟨cs, h, _⟩ := h; exact h.lt
theorem Ats.below {B : Nat} (h : Ats w ga at_) (hb : Below B w w') (hg : ga < B) : Ats w' ga at_ := by
  obtain ⟨cs, h, h2⟩ := h
  exact ⟨cs, h.below hb hg, h2⟩
theorem Ats.cell (h : Ats w ga at_) {i a : Nat} (hi : at_[i]? = some a) : w.cell? ⟨ga, i, none⟩ = some (.int .i64 (a : Int)) ∧ w.frozen? ⟨ga, i, none⟩ = false := by
  obtain ⟨cs, h, h2⟩ := h
  refine ⟨?_, h.frozen i⟩
  rw [h.cell, ← Array.getElem?_toList, h2, List.getElem?_map, hi]; rfl
theorem Ats.set (h : Ats w ga at_) (i b : Nat) : Ats (w.setCell ⟨ga, i, none⟩ (.int .i64 (b : Int))) ga (at_.set i b) := by
  obtain ⟨cs, h, h2⟩ := h
  refine ⟨_, h.set i _, ?_⟩
  rw [Array.toList_setIfInBounds, h2, List.map_set]
end

set_option maxHeartbeats 2000000 in
theorem ropen_calls (l : List Plan) (A : Option Addr) (n cap ga : Nat) (at_ : List Nat) (w : World) (hl : Sl tPlan w (fun _ => True) (.slice A n cap) l) (hd : Ats w ga at_) (hal : at_.length = n) (hn : n ≤ 1000) :
    Calls Try.prog 31 #[.slice A n cap, .slice (some ⟨ga, 0, none⟩) n n] w fun e w' => ∃ v, e = .returned v ∧ Sl tI w' (fun b => w.heap.size ≤ b) v ((openL l at_).map fun i : Nat => (i : Int)) ∧ Below w.heap.size w w' := by
  obtain ⟨hln, hcap, hcm⟩ := hl.length
  have H := Lib.hid hl
  have HD := Lib.hid hd
  have hgl := hd.lt
  have hX := Lib.hid (Below.refl w.heap.size w)
  have hO0 := Lib.hid (Own.nil tI w w.heap.size 3 (fun _ => False))
  clear hl hd
  go_enter Try.func31, Try.ntmps31
  go_wp2
  go_loopw [5, 6, 7, 10] (fun v _ _ i w' => ∃ (j : Nat), j ≤ n ∧ i = .int .i64 j ∧ Hid (Own tI w' w.heap.size 3 (fun _ => False) v (((List.range j).filter (leftB l at_)).map fun i : Nat => (i : Int))) ∧ Hid (Below w.heap.size w w')) (fun _ _ _ i _ => n - (intOf i).toNat)
  case atStart => exact ⟨0, by omega, rfl, hO0, hX⟩
  case round =>
    obtain ⟨j, hj, rfl, hO, hb⟩ := hrel
    by_cases hlt : j < n
    · obtain ⟨p, hp⟩ := some_at (show j < l.length by omega)
      obtain ⟨a, ha⟩ := some_at (show j < at_.length by omega)
      have hlb := left_some hp ha
      have hfl : ((List.range j).filter (leftB l at_)).length ≤ j := by
        have := List.length_filter_le (leftB l at_) (List.range j)
        simpa using this
      obtain ⟨b, off, P, np, cp, rfl, hbl, g0, g1, hP⟩ := sl_plan (H.out.below hb.out) hp
      have hpn := hP.length.1
      obtain ⟨k3, -⟩ := (HD.out.below hb.out hgl).cell ha
      have hgw : ga < wr.heap.size := Nat.lt_of_lt_of_le hgl hb.out.size
      have hO1 := Lib.hid (hO.out.alloc (.cells #[.int .i64 p.sess, .slice P np cp] 51))
      have hb1 := Lib.hid (hb.out.alloc hb.out.size (.cells #[.int .i64 p.sess, .slice P np cp] 51))
      rw [hpn] at hlb
      clear hP hp ha hpn
      by_cases hq : a < np
      · have hr : Hid (((List.range (j + 1)).filter (leftB l at_)).map (fun i : Nat => (i : Int)) = (((List.range j).filter (leftB l at_)).map fun i : Nat => (i : Int)) ++ [(j : Int)]) := by show _ = _; rw [range_step, hlb, decide_eq_true hq]; simp
        clear hlb
        go_wp2_with fail
        go_quiet (fail)
        have hO2 := Lib.hid (hO1.out.below (below_drewN (Below.refl _ _) nq))
        have hb2 := Lib.hid (below_drewN hb1.out nq)
        clear hO1 hb1 k3 g0 g1
        generalize World.drewN _ nq = w5 at *
        have hK : Hid (tI.K w5 (fun b => False ∧ u5.ownBlock ≠ some b) (j : Int) [.int .i64 (j : Int)]) := rfl
        go_wp2_with (at_builtin; refine wpList_app1 (o := ⟨some 26, _, _, _, _, _⟩) (t := tI) (w0 := w) (g := w5.heap.size) (cs := [.int .i64 (j : Int)]) (y := (j : Int)) w.heap.size rfl _ _ 34 3 _ 8 rfl Try.underlying34 info3 rfl (by decide) (by decide) rfl rfl rfl hO2.out hK.out hb2.out ?c2 ?c3 ?_; (case c2 => exact hb2.out.size); (case c3 => rw [List.length_map]; omega); intro v1 w9 hO9 hB9 _ _)
        have hO9' := Lib.hid hO9
        have hB9' := Lib.hid hB9
        go_roundw
        case rel => exact ⟨j + 1, by omega, by go_num, by rw [hr.out]; exact hO9', hB9'⟩
        case measure => simp [intOf]; omega
      · have hr : Hid (((List.range (j + 1)).filter (leftB l at_)).map (fun i : Nat => (i : Int)) = ((List.range j).filter (leftB l at_)).map fun i : Nat => (i : Int)) := by show _ = _; rw [range_step, hlb, decide_eq_false hq]; simp
        clear hlb
        go_wp2_with fail
        go_quiet (fail)
        have hO2 := Lib.hid (hO1.out.below (below_drewN (Below.refl _ _) nq))
        have hb2 := Lib.hid (below_drewN hb1.out nq)
        go_wp2
        go_roundw
        case rel => exact ⟨j + 1, by omega, by go_num, by rw [hr.out]; exact hO2, hb2⟩
        case measure => simp [intOf]; omega
    · obtain rfl : j = n := by omega
      go_wp2
      go_ret
      refine ⟨_, rfl, ?_, hb.out⟩
      rw [openL, hln]
      exact hO.out.sl.mono fun b hb => hb.elim False.elim And.left
end Go.Proofs.Ytidjcdfdfbomiaa
