import Derived.Test.YtidjcdfdfbomiaaW1
/-! The first Op that a test takes; whether plans may be. -/
namespace Go.Proofs.Ytidjcdfdfbomiaa
open Go.RowKit Go.Op

theorem blk_drew {w : World} {cs : Array Value} {e g : Nat} (h : Blk w g cs e) : Blk w.drew g cs e := h
theorem blk_new {w : World} {cs : Array Value} {e g : Nat} (h : g = w.heap.size) : Blk (w.alloc (.cells cs e)) g cs e := by rw [h]; exact Blk.new w cs e
def idx {α : Type} (p : α → Bool) (l : List α) : Int := if l.any p then ((l.takeWhile fun x => !p x).length : Nat) else -1
theorem idx_hit {α : Type} {p : α → Bool} {l : List α} {j : Nat} {x : α} (h : ∀ a y, a < j → l[a]? = some y → p y = false) (hx : l[j]? = some x) (hp : p x = true) : idx p l = (j : Int) := by
  have ha : l.any p = true := List.any_eq_true.2 ⟨x, List.mem_of_getElem? hx, hp⟩
  rw [idx, ha, if_pos rfl]
  congr 1
  clear ha
  induction l generalizing j with
  | nil => simp at hx
  | cons y l ih =>
    cases j with
    | zero => simp at hx; subst hx; rw [List.takeWhile_cons, hp]; rfl
    | succ j =>
      have hy : p y = false := h 0 y (by omega) rfl
      rw [List.takeWhile_cons, hy]
      simp only [Bool.not_false, if_true, List.length_cons]
      rw [ih (j := j) (fun a z ha hz => h (a + 1) z (by omega) (by simpa using hz)) (by simpa using hx)]
theorem idx_miss {α : Type} {p : α → Bool} {l : List α} (h : ∀ (a : Nat) (y : α), l[a]? = some y → p y = false) : idx p l = -1 := by
  have ha : l.any p = false := by
    rw [List.any_eq_false]
    intro x hx
    obtain ⟨j, hj, rfl⟩ := List.getElem_of_mem hx
    simpa using h j _ (List.getElem?_eq_getElem hj)
  rw [idx, ha]; rfl
theorem idx_any {α : Type} (p : α → Bool) (l : List α) : decide (0 ≤ idx p l) = l.any p := by
  unfold idx
  cases l.any p
  · rfl
  · rw [if_pos rfl]; exact decide_eq_true (by omega)
theorem seen_more {α : Type} {p : α → Bool} {l : List α} {j : Nat} {x : α} (h : ∀ a y, a < j → l[a]? = some y → p y = false) (hx : l[j]? = some x) (hp : p x = false) : ∀ a y, a < j + 1 → l[a]? = some y → p y = false := by
  intro a y ha hy
  by_cases hj : a = j
  · subst hj; rw [hx] at hy; injection hy with e; rw [← e]; exact hp
  · exact h a y (by omega) hy

theorem index_ops (q : HOp → Bool) (F : Nat) (caps : Array Value) (l : List HOp) (A : Option Addr) (n cap : Nat) (w : World) (hl : Sl tOp w (fun _ => True) (.slice A n cap) l)
    (hcf : ∀ (x : Value) (W : World), (callFunc F (#[x] ++ caps)).run Try.prog W = .ok (.enter F (#[x] ++ caps)) W)
    (hF : ∀ (o : HOp) (W : World), o ∈ l → Below w.heap.size w W → Calls Try.prog F (#[.agg #[.int .i64 o.kind, .int .i64 o.sess, .bool o.strict, .string o.key, .string o.val, .int .i64 o.n]] ++ caps) W fun e W' => e = .returned (.bool (q o)) ∧ Below W.heap.size W W') :
    Calls Try.prog 35 #[.slice A n cap, .func (.func F) #[] caps] w fun e w' => e = .returned (.int .i64 (idx q l)) ∧ Below w.heap.size w w' := by
  obtain ⟨hln, hcap, hm⟩ := hl.length
  have H := Lib.hid hl
  have HF := Lib.hid hF
  clear hl hF
  go_enter Try.func35, Try.ntmps35
  go_wp2
  go_loopw [8] (fun i w' => ∃ (j : Nat), j ≤ n ∧ i = .int .i64 j ∧ Hid (∀ a y, a < j → l[a]? = some y → q y = false) ∧ Below w.heap.size w w')
    (fun i _ => n - (intOf i).toNat)
  case atStart => exact ⟨0, by omega, rfl, fun a y ha => by omega, Below.refl _ _⟩
  case round =>
    obtain ⟨j, hj, rfl, hg, hb⟩ := hrel
    by_cases hlt : j < n
    · obtain ⟨x, hx⟩ := some_at (show j < l.length by omega)
      obtain ⟨b, off, rfl, hbl, h0, h1, h2, h3, h4, h5⟩ := sl_op (H.out.below hb) hx
      have hf := Lib.hid (HF.out x wr (List.mem_of_getElem? hx) hb)
      have hx' := Lib.hid hx
      clear hx
      cases hq : q x
      all_goals
        have hq' := Lib.hid hq
        rw [hq] at hf
        clear hq
        go_wp2_with (refine hf.out.mono ?_; rintro e w' ⟨rfl, hb'⟩)
      · go_roundw
        case rel => exact ⟨j + 1, by omega, by go_num, seen_more hg.out hx'.out hq'.out, hb.trans (hb'.mono hb.size)⟩
        case measure => simp [intOf]; omega
      · go_ret
        exact ⟨ret_int (idx_hit hg.out hx'.out hq'.out).symm, hb.trans (hb'.mono hb.size)⟩
    · go_wp2
      go_ret
      exact ⟨ret_int (idx_miss fun a y ha => hg.out a y (by have := (List.getElem?_eq_some_iff.1 ha).1; omega) ha).symm, hb⟩

theorem any_ops (q : HOp → Bool) (F : Nat) (caps : Array Value) (l : List HOp) (A : Option Addr) (n cap : Nat) (w : World) (hl : Sl tOp w (fun _ => True) (.slice A n cap) l)
    (hcf : ∀ (x : Value) (W : World), (callFunc F (#[x] ++ caps)).run Try.prog W = .ok (.enter F (#[x] ++ caps)) W)
    (hF : ∀ (o : HOp) (W : World), o ∈ l → Below w.heap.size w W → Calls Try.prog F (#[.agg #[.int .i64 o.kind, .int .i64 o.sess, .bool o.strict, .string o.key, .string o.val, .int .i64 o.n]] ++ caps) W fun e W' => e = .returned (.bool (q o)) ∧ Below W.heap.size W W') :
    Calls Try.prog 23 #[.slice A n cap, .func (.func F) #[] caps] w fun e w' => e = .returned (.bool (l.any q)) ∧ Below w.heap.size w w' := by
  have HI := Lib.hid (index_ops q F caps l A n cap w hl hcf hF)
  clear hl hF hcf
  go_enter Try.func23, Try.ntmps23
  go_wp2_with fail
  refine HI.out.mono ?_
  rintro e w' ⟨rfl, hb⟩
  go_wp2
  go_ret
  exact ⟨ret_bool (idx_any q l), hb⟩


theorem op_cells {w : World} {g e : Nat} (o : HOp) (h : Blk w g #[.int .i64 o.kind, .int .i64 o.sess, .bool o.strict, .string o.key, .string o.val, .int .i64 o.n] e) : w.cell? ⟨g, 0, none⟩ = some (.int .i64 o.kind) ∧ w.cell? ⟨g, 1, none⟩ = some (.int .i64 o.sess) ∧ w.cell? ⟨g, 2, none⟩ = some (.bool o.strict) ∧ w.cell? ⟨g, 3, none⟩ = some (.string o.key) ∧ w.cell? ⟨g, 4, none⟩ = some (.string o.val) ∧ w.cell? ⟨g, 5, none⟩ = some (.int .i64 o.n) :=
  ⟨h.cell 0, h.cell 1, h.cell 2, h.cell 3, h.cell 4, h.cell 5⟩
/-- Good's test: is an Op of another session than the plan in the box? -/
theorem good_in (o : HOp) (s : Int) (g : Nat) (w : World) (hg : w.cell? ⟨g, 0, none⟩ = some (.int .i64 s)) :
    Calls Try.prog 24 #[.agg #[.int .i64 o.kind, .int .i64 o.sess, .bool o.strict, .string o.key, .string o.val, .int .i64 o.n], .pointer (some ⟨g, 0, none⟩)] w fun e w' => e = .returned (.bool (!(o.sess == s))) ∧ Below w.heap.size w w' := by
  have hb0 : Below w.heap.size w (w.alloc (.cells #[.int .i64 o.kind, .int .i64 o.sess, .bool o.strict, .string o.key, .string o.val, .int .i64 o.n] 48)) := (Below.refl _ _).alloc (Nat.le_refl _) _
  have HB := Lib.hid hb0
  have hgl := World.block_lt_of_cell? w _ hg
  clear hb0
  go_enter Try.func24, Try.ntmps24
  go_wp2_with fail
  go_ret
  exact ⟨rfl, HB.out⟩

/-- The sessions that were seen. -/
def SeenA (w : World) (g : Nat) (S : List Int) : Prop := ∃ cs : Array Value, Blk w g cs 60 ∧ cs.size = 9 ∧ ∀ i : Nat, i < 9 → cs[i]? = some (.bool (S.contains (i : Int)))
theorem SeenA.lt {w : World} {g : Nat} {S : List Int} (h : SeenA w g S) : g < w.heap.size := by
  obtain ⟨cs, h1, _⟩ := h
  exact h1.lt
theorem SeenA.below {w w' : World} {g B : Nat} {S : List Int} (h : SeenA w g S) (hb : Below B w w') (hg : g < B) : SeenA w' g S := by
  obtain ⟨cs, h1, h2, h3⟩ := h
  exact ⟨cs, h1.below hb hg, h2, h3⟩
theorem SeenA.cell {w : World} {g : Nat} {S : List Int} (h : SeenA w g S) {s : Nat} (hs : s < 9) : w.cell? ⟨g, s, none⟩ = some (.bool (S.contains (s : Int))) ∧ w.frozen? ⟨g, s, none⟩ = false := by
  obtain ⟨cs, h1, _, h3⟩ := h
  exact ⟨by rw [h1.cell]; exact h3 s hs, h1.frozen s⟩
theorem SeenA.set {w : World} {g : Nat} {S : List Int} (h : SeenA w g S) {s : Nat} (hs : s < 9) : SeenA (w.setCell ⟨g, s, none⟩ (.bool true)) g ((s : Int) :: S) := by
  obtain ⟨cs, h1, h2, h3⟩ := h
  refine ⟨_, h1.set s _, by simpa using h2, fun i hi => ?_⟩
  by_cases he : i = s
  · subst he
    rw [Array.getElem?_setIfInBounds_self_of_lt (by omega)]
    simp
  · rw [Array.getElem?_setIfInBounds_ne (fun e => he e.symm), h3 i hi]
    congr 2
    have : ((i : Int) == (s : Int)) = false := beq_eq_false_iff_ne.2 (by omega)
    rw [List.contains_cons, this, Bool.false_or]
theorem SeenA.new (w : World) : SeenA (w.alloc (.cells #[.bool false, .bool false, .bool false, .bool false, .bool false, .bool false, .bool false, .bool false, .bool false] 60)) w.heap.size [] :=
  ⟨_, Blk.new w _ 60, rfl, fun i hi => by
    match i, hi with
    | 0, _ | 1, _ | 2, _ | 3, _ | 4, _ | 5, _ | 6, _ | 7, _ | 8, _ => rfl⟩

set_option maxHeartbeats 4000000 in
theorem good_calls (l : List Plan) (A : Option Addr) (n cap : Nat) (w : World) (hl : Sl tPlan w (fun _ => True) (.slice A n cap) l) :
    Calls Try.prog 12 #[.slice A n cap] w fun e w' => e = .returned (.bool (good l)) ∧ Below w.heap.size w w' := by
  obtain ⟨hln, hcap, hcm⟩ := hl.length
  have H := Lib.hid hl.inb
  clear hl
  have hX := Lib.hid (Below.refl w.heap.size w)
  by_cases h70 : 64 < n
  · have hv : good l = false := by unfold good; rw [decide_eq_false (by omega)]; rfl
    go_enter Try.func12, Try.ntmps12
    go_wp2
    go_ret
    exact ⟨ret_bool hv.symm, hX.out⟩
  have hv : Hid (good l = goodGo [] l) := by show _ = _; unfold good; rw [decide_eq_true (by omega)]; rfl
  go_enter Try.func12, Try.ntmps12
  go_wp2
  have hS0 := Lib.hid (SeenA.new w)
  have hB0 : Hid (Below w.heap.size w (w.alloc (.cells #[.bool false, .bool false, .bool false, .bool false, .bool false, .bool false, .bool false, .bool false, .bool false] 60))) := (Below.refl _ _).alloc (Nat.le_refl _) _
  generalize w.alloc (.cells #[.bool false, .bool false, .bool false, .bool false, .bool false, .bool false, .bool false, .bool false, .bool false] 60) = w0 at *
  go_loopw [5, 12] (fun _ i w' => ∃ (j : Nat) (S : List Int), j ≤ n ∧ i = .int .i64 j ∧ Hid (goodGo [] l = goodGo S (l.drop j)) ∧ Hid (SeenA w' w.heap.size S) ∧ Hid (Below w.heap.size w w')) (fun _ i _ => n - (intOf i).toNat)
  case atStart => exact ⟨0, [], by omega, rfl, rfl, hS0, hB0⟩
  case round =>
    obtain ⟨j, S, hj, rfl, hg, hS, hb⟩ := hrel
    by_cases hlt : j < n
    · obtain ⟨p, hp⟩ := some_at (show j < l.length by omega)
      obtain ⟨b, off, P, np, cp, rfl, hbl, g0, g1, hP⟩ := sl_plan (H.out.below hb.out) hp
      have hst := Lib.hid (hg.out.trans (goodGo_step S hp))
      have hpn := hP.length.1
      have hPc := hP.length.2
      have hS1 : Hid (SeenA (wr.alloc (.cells #[.int .i64 p.sess, .slice P np cp] 46)) w.heap.size S) := hS.out.below ((Below.refl _ _).alloc (Nat.le_refl _) _) hS.out.lt
      have hb1 := Lib.hid (hb.out.alloc hb.out.size (.cells #[.int .i64 p.sess, .slice P np cp] 46))
      have hB1 : Hid (Blk (wr.alloc (.cells #[.int .i64 p.sess, .slice P np cp] 46)) wr.heap.size #[.int .i64 p.sess, .slice P np cp] 46) := Blk.new _ _ _
      have HPw := Lib.hid hP
      have hgl := hS.out.lt
      clear hp hP hg
      by_cases h1 : p.sess < 1
      · have hv2 : Hid (good l = false) := by show _ = _; rw [hv.out, hst.out, decide_eq_false (by omega)]; rfl
        go_wp2
        go_ret
        exact ⟨ret_bool hv2.out.symm, hb1.out⟩
      by_cases h2 : 8 < p.sess
      · have hv2 : Hid (good l = false) := by show _ = _; rw [hv.out, hst.out, decide_eq_true (show 1 ≤ p.sess by omega), decide_eq_false (show ¬ p.sess ≤ 8 by omega)]; rfl
        go_wp2
        go_ret
        exact ⟨ret_bool hv2.out.symm, hb1.out⟩
      obtain ⟨s, hs⟩ : ∃ s : Nat, p.sess = (s : Int) := ⟨p.sess.toNat, by omega⟩
      have hs9 : s < 9 := by omega
      have hs1 : 1 ≤ s := by omega
      rw [hs] at g0 hst hb1 hB1 hS1
      rw [hs] at h1 h2
      obtain ⟨k0, f0⟩ := hS1.out.cell hs9
      cases h3 : S.contains (s : Int)
      · rw [h3] at k0
        by_cases h4 : 200 < np
        · have hv2 : Hid (good l = false) := by show _ = _; rw [hv.out, hst.out, decide_eq_true (show 1 ≤ (s : Int) by omega), decide_eq_true (show (s : Int) ≤ 8 by omega), h3, decide_eq_false (show ¬ p.ops.length ≤ 200 by omega)]; rfl
          go_wp2
          go_ret
          exact ⟨ret_bool hv2.out.symm, hb1.out⟩
        have hst2 : Hid (good l = ((p.ops.all fun o => o.sess == (s : Int)) && goodGo ((s : Int) :: S) (l.drop (j + 1)))) := by
          show _ = _
          rw [hv.out, hst.out, decide_eq_true (show 1 ≤ (s : Int) by omega), decide_eq_true (show (s : Int) ≤ 8 by omega), h3, decide_eq_true (show p.ops.length ≤ 200 by omega)]; rfl
        clear hst
        have hs2 : w.heap.size ≠ wr.heap.size := by omega
        go_wp2_with fail
        have hb2 : Hid (Below w.heap.size w ((wr.setCell ⟨w.heap.size, s, none⟩ (.bool true)).alloc (.cells #[.int .i64 (s : Int), .slice P np cp] 46))) := (hb.out.setCell (Nat.le_refl _) _).alloc (by simpa using hb.out.size) _
        have hS2 : Hid (SeenA ((wr.setCell ⟨w.heap.size, s, none⟩ (.bool true)).alloc (.cells #[.int .i64 (s : Int), .slice P np cp] 46)) w.heap.size ((s : Int) :: S)) := (hS.out.set hs9).below ((Below.refl _ _).alloc (Nat.le_refl _) _) (by simpa using hgl)
        have hB2 : Hid (Blk ((wr.setCell ⟨w.heap.size, s, none⟩ (.bool true)).alloc (.cells #[.int .i64 (s : Int), .slice P np cp] 46)) wr.heap.size #[.int .i64 (s : Int), .slice P np cp] 46) := blk_new (by simp)
        have HP2 : Hid (Sl tOp ((wr.setCell ⟨w.heap.size, s, none⟩ (.bool true)).alloc (.cells #[.int .i64 (s : Int), .slice P np cp] 46)) (fun _ => True) (.slice P np cp) p.ops) := ((HPw.out.step fun b hb => Below.heap_setCell _ _ _ _ (by show b ≠ w.heap.size; have := hb.2; omega)).mono fun _ _ => trivial).below ((Below.refl _ _).alloc (Nat.le_refl _) _)
        clear hS1 hB1 HPw k0 f0 hb1 g0 g1 hbl
        generalize ((wr.setCell ⟨w.heap.size, s, none⟩ (.bool true)).alloc (.cells #[.int .i64 (s : Int), .slice P np cp] 46)) = w2 at *
        have hc := any_ops (fun o => !(o.sess == (s : Int))) 24 #[.pointer (some ⟨wr.heap.size, 0, none⟩)] p.ops P np cp w2 HP2.out (fun _ _ => by rfl)
          (fun o W _ h => good_in o s wr.heap.size W ((hB2.out.below h hB2.out.lt).cell 0))
        refine hc.mono ?_
        rintro e w3 ⟨rfl, hb3⟩
        have hS3 : Hid (SeenA w3 w.heap.size ((s : Int) :: S)) := hS2.out.below hb3 hS2.out.lt
        have hb4 := Lib.hid (hb2.out.trans (hb3.mono hb2.out.size))
        have he : (p.ops.all fun o => o.sess == (s : Int)) = !(p.ops.any fun o => !(o.sess == (s : Int))) := by rw [List.not_any_eq_all_not]; simp
        rw [he] at hst2
        clear hc hb3 he hB2 HP2
        cases hq : (p.ops.any fun o => !(o.sess == (s : Int)))
        · rw [hq] at hst2
          go_wp2
          go_roundw
          case rel => exact ⟨j + 1, (s : Int) :: S, by omega, by go_num, (by show _ = _; rw [← hv.out, hst2.out]; rfl), hS3, hb4⟩
          case measure => simp [intOf]; omega
        · rw [hq] at hst2
          go_wp2
          go_ret
          exact ⟨ret_bool (by rw [hst2.out]; rfl), hb4.out⟩
      · have hv2 : Hid (good l = false) := by show _ = _; rw [hv.out, hst.out, decide_eq_true (show 1 ≤ (s : Int) by omega), decide_eq_true (show (s : Int) ≤ 8 by omega), h3]; rfl
        rw [h3] at k0
        go_wp2
        go_ret
        exact ⟨ret_bool hv2.out.symm, hb1.out⟩
    · have hv2 : Hid (good l = true) := hv.out.trans (hg.out.trans (goodGo_end S (by omega)))
      go_wp2
      go_ret
      exact ⟨ret_bool hv2.out.symm, hb.out⟩
end Go.Proofs.Ytidjcdfdfbomiaa
