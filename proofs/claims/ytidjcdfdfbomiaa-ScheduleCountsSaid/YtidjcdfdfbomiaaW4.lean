import Derived.Test.YtidjcdfdfbomiaaW3
/-! The desk: plans, and how many Ops each has done. -/
namespace Go.Proofs.Ytidjcdfdfbomiaa
open Go.RowKit Go.Op

/-- Has a plan Ops left? -/
def leftB (l : List Plan) (at_ : List Nat) (i : Nat) : Bool := match l[i]?, at_[i]? with
  | some p, some a => decide (a < p.ops.length)
  | _, _ => false
def openL (l : List Plan) (at_ : List Nat) : List Nat := (List.range l.length).filter (leftB l at_)

def Desk (w : World) (gd ga : Nat) (A : Option Addr) (n cap : Nat) (at_ : List Nat) : Prop :=
  Blk w gd #[.slice A n cap, .slice (some ⟨ga, 0, none⟩) n n] 69 ∧ (∃ cs : Array Value, Blk w ga cs 3 ∧ ∀ (i a : Nat), at_[i]? = some a → cs[i]? = some (.int .i64 (a : Int))) ∧ at_.length = n ∧ gd ≠ ga
section
variable {w w' : World} {gd ga : Nat} {A : Option Addr} {n cap : Nat} {at_ : List Nat}
theorem Desk.lt (h : Desk w gd ga A n cap at_) : gd < w.heap.size ∧ ga < w.heap.size := by
  obtain ⟨h1, ⟨cs, h2, _⟩, _⟩ := h
  exact ⟨h1.lt, h2.lt⟩
theorem Desk.below (h : Desk w gd ga A n cap at_) (hb : Below w.heap.size w w') : Desk w' gd ga A n cap at_ := by
  obtain ⟨h1, ⟨cs, h2, h3⟩, h4⟩ := h
  exact ⟨h1.below hb h1.lt, ⟨cs, h2.below hb h2.lt, h3⟩, h4⟩
theorem Desk.cells (h : Desk w gd ga A n cap at_) : w.cell? ⟨gd, 0, none⟩ = some (.slice A n cap) ∧ w.cell? ⟨gd, 1, none⟩ = some (.slice (some ⟨ga, 0, none⟩) n n) ∧ ∀ (i a : Nat), at_[i]? = some a → w.cell? ⟨ga, i, none⟩ = some (.int .i64 (a : Int)) ∧ w.frozen? ⟨ga, i, none⟩ = false := by
  obtain ⟨h1, ⟨cs, h2, h3⟩, h4⟩ := h
  exact ⟨h1.cell 0, h1.cell 1, fun i a hi => ⟨by rw [h2.cell]; exact h3 i a hi, h2.frozen i⟩⟩
theorem Desk.set (h : Desk w gd ga A n cap at_) (i b : Nat) : Desk (w.setCell ⟨ga, i, none⟩ (.int .i64 (b : Int))) gd ga A n cap (at_.set i b) := by
  obtain ⟨h1, ⟨cs, h2, h3⟩, h4, h5⟩ := h
  refine ⟨h1.far h5 _, ⟨_, h2.set i _, fun j a hj => ?_⟩, by rw [List.length_set]; exact h4, h5⟩
  rw [List.getElem?_set] at hj
  by_cases he : i = j
  · subst he
    rw [if_pos rfl] at hj
    split at hj
    · rename_i hlt
      injection hj with hj
      subst hj
      have := h3 i at_[i] (List.getElem?_eq_getElem hlt)
      have hsz := (Array.getElem?_eq_some_iff.1 this).1
      rw [Array.getElem?_setIfInBounds_self_of_lt hsz]
    · cases hj
  · rw [if_neg he] at hj
    rw [Array.getElem?_setIfInBounds_ne he]
    exact h3 j a hj
end
theorem info3 : (Try.prog.info? 3).map (fun i => (i.zero, i.size, i.bytes)) = some (some (.int .i64 0), 1, 8) := by kernel_rfl
theorem made_zero (n : Nat) (i : Nat) (h : i < n) : (madeCells #[Value.int .i64 0] n)[i]? = some (.int .i64 0) := by
  rw [← Array.getElem?_toList, madeCells_get _ _ _ h]
  simp [Nat.mod_one]

theorem lay_calls (A : Option Addr) (n cap : Nat) (w : World) (hn : n ≤ 1000) :
    Calls Try.prog 20 #[.slice A n cap] w fun e w' => ∃ gd ga, e = .returned (.pointer (some ⟨gd, 0, none⟩)) ∧ Desk w' gd ga A n cap (List.replicate n 0) ∧ w.heap.size ≤ gd ∧ w.heap.size ≤ ga ∧ Below w.heap.size w w' := by
  have hmk : ∀ W : World, (Instr.makeSlice 34 (.int .i64 (n : Int)) (.int .i64 (n : Int))).run Try.prog W = .ok (.slice (some ⟨W.heap.size, 0, none⟩) n n) (W.alloc (.cells (madeCells #[.int .i64 0] n) 3)) := by
    intro W
    obtain ⟨i0, hi, hzz⟩ := Option.map_eq_some_iff.1 info3
    simp only [Prod.mk.injEq] at hzz
    obtain ⟨q0, q1, q2⟩ := hzz
    have := run_make_rowN (P := Try.prog) 34 3 i0 _ Try.underlying34 hi q0 .i64 .i64 n n (by omega) (by rw [q2]; omega) (by omega) W
    rw [q1, Nat.mul_one] at this
    exact this
  have hD : Hid (Desk ((w.alloc (.cells (madeCells #[.int .i64 0] n) 3)).alloc (.cells #[.slice A n cap, .slice (some ⟨w.heap.size, 0, none⟩) n n] 69)) (w.heap.size + 1) w.heap.size A n cap (List.replicate n 0)) :=
    ⟨blk_new (by simp), ⟨_, (Blk.new w _ 3).alloc _, fun i a hi => by
      obtain ⟨h1, h2⟩ := List.getElem?_eq_some_iff.1 hi
      rw [List.length_replicate] at h1
      simp at h2
      rw [made_zero n i h1, ← h2]; rfl⟩, by simp, by omega⟩
  have hB : Hid (Below w.heap.size w ((w.alloc (.cells (madeCells #[.int .i64 0] n) 3)).alloc (.cells #[.slice A n cap, .slice (some ⟨w.heap.size, 0, none⟩) n n] 69))) := ((Below.refl _ _).alloc (Nat.le_refl _) _).alloc (by simp) _
  go_enter Try.func20, Try.ntmps20
  go_wp2
  go_ret
  exact ⟨w.heap.size + 1, w.heap.size, rfl, hD.out, by omega, by omega, hB.out⟩

theorem left_calls (l : List Plan) (A : Option Addr) (n cap gd ga : Nat) (at_ : List Nat) (i : Nat) (p : Plan) (a : Nat) (w : World) (hl : Sl tPlan w (fun _ => True) (.slice A n cap) l) (hd : Desk w gd ga A n cap at_) (hp : l[i]? = some p) (ha : at_[i]? = some a) :
    Calls Try.prog 29 #[.pointer (some ⟨gd, 0, none⟩), .int .i64 (i : Int)] w fun e w' => e = .returned (.bool (decide (a < p.ops.length))) ∧ Below w.heap.size w w' := by
  obtain ⟨hln, hcap, hcm⟩ := hl.length
  have hi : i < n := by rw [← hln]; exact (List.getElem?_eq_some_iff.1 hp).1
  obtain ⟨b, off, P, np, cp, rfl, hbl, g0, g1, hP⟩ := sl_plan hl hp
  have hpn := hP.length.1
  obtain ⟨k0, k1, k2⟩ := hd.cells
  obtain ⟨k3, -⟩ := k2 i a ha
  obtain ⟨q0, q1⟩ := hd.lt
  have hX := Lib.hid (Below.refl w.heap.size w)
  rw [hpn]
  clear hl hP hd k2
  go_enter Try.func29, Try.ntmps29
  go_wp2_with fail
  go_quiet (fail)
  have hX2 := below_drewN hX.out nq
  go_wp2
  go_ret
  exact ⟨ret_bool (by simp), hX2⟩
theorem left_some {l : List Plan} {at_ : List Nat} {i : Nat} {p : Plan} {a : Nat} (hp : l[i]? = some p) (ha : at_[i]? = some a) : leftB l at_ i = decide (a < p.ops.length) := by
  rw [leftB, hp, ha]
theorem range_step {p : Nat → Bool} {j : Nat} : (List.range (j + 1)).filter p = (List.range j).filter p ++ (if p j then [j] else []) := by
  rw [List.range_succ, List.filter_append]
  congr 1
  by_cases h : p j = true
  · rw [if_pos h]; simp [h]
  · rw [if_neg h]; simp [h]

set_option maxHeartbeats 2000000 in
theorem open_calls (l : List Plan) (A : Option Addr) (n cap gd ga : Nat) (at_ : List Nat) (w : World) (hl : Sl tPlan w (fun _ => True) (.slice A n cap) l) (hd : Desk w gd ga A n cap at_) (hn : n ≤ 1000) :
    Calls Try.prog 25 #[.pointer (some ⟨gd, 0, none⟩)] w fun e w' => ∃ v, e = .returned v ∧ Sl tI w' (fun b => w.heap.size ≤ b) v ((openL l at_).map fun i : Nat => (i : Int)) ∧ Below w.heap.size w w' := by
  obtain ⟨hln, hcap, hcm⟩ := hl.length
  have H := Lib.hid hl
  have HD := Lib.hid hd
  obtain ⟨k0, k1, k2⟩ := hd.cells
  obtain ⟨q0, q1⟩ := hd.lt
  have hal := hd.2.2.1
  have hX := Lib.hid (Below.refl w.heap.size w)
  have hO0 := Lib.hid (Own.nil tI w w.heap.size 3 (fun _ => False))
  clear hl hd k2
  go_enter Try.func25, Try.ntmps25
  go_wp2
  clear k0 k1 q0 q1
  go_loopw [3, 4, 10] (fun v _ i w' => ∃ (j : Nat), j ≤ n ∧ i = .int .i64 j ∧ Hid (Own tI w' w.heap.size 3 (fun _ => False) v (((List.range j).filter (leftB l at_)).map fun i : Nat => (i : Int))) ∧ Hid (Below w.heap.size w w')) (fun _ _ i _ => n - (intOf i).toNat)
  case atStart => exact ⟨0, by omega, rfl, hO0, hX⟩
  case round =>
    obtain ⟨j, hj, rfl, hO, hb⟩ := hrel
    by_cases hlt : j < n
    · obtain ⟨p, hp⟩ := some_at (show j < l.length by omega)
      obtain ⟨a, ha⟩ := some_at (show j < at_.length by omega)
      have HL := Lib.hid (left_calls l A n cap gd ga at_ j p a wr (H.out.below hb.out) (HD.out.below hb.out) hp ha)
      have hlb := left_some hp ha
      have hfl : ((List.range j).filter (leftB l at_)).length ≤ j := by
        have := List.length_filter_le (leftB l at_) (List.range j)
        simpa using this
      rw [← hlb] at HL
      clear hp ha hlb
      cases hq : leftB l at_ j
      · have hr : Hid (((List.range (j + 1)).filter (leftB l at_)).map (fun i : Nat => (i : Int)) = ((List.range j).filter (leftB l at_)).map fun i : Nat => (i : Int)) := by show _ = _; rw [range_step, hq]; simp
        rw [hq] at HL
        go_wp2_with fail
        refine HL.out.mono ?_
        rintro e w1 ⟨rfl, hb1⟩
        have hO1 := Lib.hid (hO.out.below hb1)
        have hb2 := Lib.hid (hb.out.trans (hb1.mono hb.out.size))
        clear HL hb1
        go_wp2
        go_roundw
        case rel => exact ⟨j + 1, by omega, by go_num, by rw [hr.out]; exact hO1, hb2⟩
        case measure => simp [intOf]; omega
      · have hr : Hid (((List.range (j + 1)).filter (leftB l at_)).map (fun i : Nat => (i : Int)) = (((List.range j).filter (leftB l at_)).map fun i : Nat => (i : Int)) ++ [(j : Int)]) := by show _ = _; rw [range_step, hq]; simp
        rw [hq] at HL
        go_wp2_with fail
        refine HL.out.mono ?_
        rintro e w1 ⟨rfl, hb1⟩
        have hO1 := Lib.hid (hO.out.below hb1)
        have hb2 := Lib.hid (hb.out.trans (hb1.mono hb.out.size))
        have hK : Hid (tI.K w1 (fun b => False ∧ u3.ownBlock ≠ some b) (j : Int) [.int .i64 (j : Int)]) := rfl
        clear HL hb1
        go_wp2_with (at_builtin; refine wpList_app1 (o := ⟨some 19, _, _, _, _, _⟩) (t := tI) (w0 := w) (g := w1.heap.size) (cs := [.int .i64 (j : Int)]) (y := (j : Int)) w.heap.size rfl _ _ 34 3 _ 8 rfl Try.underlying34 info3 rfl (by decide) (by decide) rfl rfl rfl hO1.out hK.out hb2.out ?c2 ?c3 ?_; (case c2 => exact hb2.out.size); (case c3 => rw [List.length_map]; omega); intro v1 w9 hO9 hB9 _ _)
        have hO9' := Lib.hid hO9
        have hB9' := Lib.hid hB9
        go_roundw
        case rel => exact ⟨j + 1, by omega, by go_num, by rw [hr.out]; exact hO9', hB9'⟩
        case measure => simp [intOf]; omega
    · obtain rfl : j = n := by omega
      go_wp2
      go_ret
      refine ⟨_, rfl, ?_, hb.out⟩
      rw [openL, hln]
      exact hO.out.sl.mono fun b hb => hb.elim False.elim And.left
end Go.Proofs.Ytidjcdfdfbomiaa
