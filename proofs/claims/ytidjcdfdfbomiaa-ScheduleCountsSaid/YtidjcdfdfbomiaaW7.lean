import Derived.Test.YtidjcdfdfbomiaaW6
import Derived.Laws.StructEq
/-! Looking plans up, and places. -/
namespace Go.Proofs.Ytidjcdfdfbomiaa
open Go.RowKit Go.Op

def sameOp (o q : HOp) : Bool := o.kind == q.kind && (o.sess == q.sess && (o.strict == q.strict && (o.key.toList == q.key.toList && (o.val.toList == q.val.toList && o.n == q.n))))
theorem sameOp_refl (o : HOp) : sameOp o o = true := by simp [sameOp]
theorem guard48 : Try.prog.eqGuardType Try.prog.depth 48 = false := by kernel_rfl
theorem stood48 : Try.prog.stoodInHeld 48 = false := by kernel_rfl
set_option maxHeartbeats 2000000 in
theorem run_neq_op (o q : HOp) (W : World) : (Go.binOp .neq 48 (.agg #[.int .i64 o.kind, .int .i64 o.sess, .bool o.strict, .string o.key, .string o.val, .int .i64 o.n]) (.agg #[.int .i64 q.kind, .int .i64 q.sess, .bool q.strict, .string q.key, .string q.val, .int .i64 q.n])).run Try.prog W = .ok (.bool (!sameOp o q)) W := by
  have hst : Try.prog.underlying 48 = some (.struct (Try.prog.fieldsOf 48)) := by rw [Program.fieldsOf, Try.underlying48]
  have u9 := Try.underlying9
  have u4 := Try.underlying4
  have u3 := Try.underlying3
  rw [run_neq_struct, run_equalIn_struct _ _ _ _ _ hst stood48]
  simp only [Program.fieldsOf, Try.underlying48]
  unfold sameOp
  cases h1 : o.kind == q.kind
  · simp [Op.eqFields, go_sem, part, u9, u4, u3, h1]
  cases h2 : o.sess == q.sess
  · simp [Op.eqFields, go_sem, part, u9, u4, u3, h1, h2]
  cases h3 : o.strict == q.strict
  · simp [Op.eqFields, go_sem, part, u9, u4, u3, h1, h2, h3]
  cases h4 : o.key.toList == q.key.toList
  · simp [Op.eqFields, go_sem, part, u9, u4, u3, h1, h2, h3, h4]
  cases h5 : o.val.toList == q.val.toList
  · simp [Op.eqFields, go_sem, part, u9, u4, u3, h1, h2, h3, h4, h5]
  cases h6 : o.n == q.n
  · simp [Op.eqFields, go_sem, part, u9, u4, u3, h1, h2, h3, h4, h5, h6]
  simp [Op.eqFields, go_sem, part, u9, u4, u3, h1, h2, h3, h4, h5, h6]

set_option maxHeartbeats 1000000 in
/-- The first plan that a test takes. -/
theorem index_plans (q : Plan → Bool) (F : Nat) (caps : Array Value) (l : List Plan) (A : Option Addr) (n cap : Nat) (w : World) (hl : Sl tPlan w (fun _ => True) (.slice A n cap) l)
    (hcf : ∀ (x : Value) (W : World), (callFunc F (#[x] ++ caps)).run Try.prog W = .ok (.enter F (#[x] ++ caps)) W)
    (hF : ∀ (p : Plan) (P : Option Addr) (np cp : Nat) (W : World), p ∈ l → Below w.heap.size w W → Calls Try.prog F (#[.agg #[.int .i64 p.sess, .slice P np cp]] ++ caps) W fun e W' => e = .returned (.bool (q p)) ∧ Below W.heap.size W W') :
    Calls Try.prog 27 #[.slice A n cap, .func (.func F) #[] caps] w fun e w' => e = .returned (.int .i64 (idx q l)) ∧ Below w.heap.size w w' := by
  obtain ⟨hln, hcap, hm⟩ := hl.length
  have H := Lib.hid hl
  have HF := Lib.hid hF
  clear hl hF
  go_enter Try.func27, Try.ntmps27
  go_wp2
  go_loopw [8] (fun i w' => ∃ (j : Nat), j ≤ n ∧ i = .int .i64 j ∧ Hid (∀ a y, a < j → l[a]? = some y → q y = false) ∧ Below w.heap.size w w')
    (fun i _ => n - (intOf i).toNat)
  case atStart => exact ⟨0, by omega, rfl, fun a y ha => by omega, Below.refl _ _⟩
  case round =>
    obtain ⟨j, hj, rfl, hg, hb⟩ := hrel
    by_cases hlt : j < n
    · obtain ⟨x, hx⟩ := some_at (show j < l.length by omega)
      obtain ⟨b, off, P, np, cp, rfl, hbl, h0, h1, hP⟩ := sl_plan (H.out.below hb) hx
      have hf := Lib.hid (HF.out x P np cp wr (List.mem_of_getElem? hx) hb)
      have hx' := Lib.hid hx
      clear hx hP
      cases hq : q x
      all_goals
        have hq' := Lib.hid hq
        rw [hq] at hf
        clear hq
        go_wp2_with (refine hf.out.mono ?_; rintro e w' ⟨rfl, hb'⟩)
      · go_roundw
        case rel => exact ⟨j + 1, by omega, by go_num, seen_more hg.out hx'.out hq'.out, hb.trans (hb'.mono hb.size)⟩
        case measure => simp [intOf]; omega
      · go_ret
        exact ⟨ret_int (idx_hit hg.out hx'.out hq'.out).symm, hb.trans (hb'.mono hb.size)⟩
    · go_wp2
      go_ret
      exact ⟨ret_int (idx_miss fun a y ha => hg.out a y (by have := (List.getElem?_eq_some_iff.1 ha).1; omega) ha).symm, hb⟩

/-- The first of some numbers that is one. -/
theorem index_ints (z : Int) (l : List Int) (A : Option Addr) (n cap : Nat) (w : World) (hl : Sl tI w (fun _ => True) (.slice A n cap) l) :
    Calls Try.prog 36 #[.slice A n cap, .int .i64 z] w fun e w' => e = .returned (.int .i64 (idx (fun y => z == y) l)) ∧ Below w.heap.size w w' := by
  obtain ⟨hln, hcap, hm⟩ := hl.length
  have H := Lib.hid hl
  clear hl
  go_enter Try.func36, Try.ntmps36
  go_wp2
  go_loopw [8] (fun i w' => ∃ (j : Nat), j ≤ n ∧ i = .int .i64 j ∧ Hid (∀ (a : Nat) (y : Int), a < j → l[a]? = some y → (z == y) = false) ∧ Below w.heap.size w w')
    (fun i _ => n - (intOf i).toNat)
  case atStart => exact ⟨0, by omega, rfl, fun a y ha => by omega, Below.refl _ _⟩
  case round =>
    obtain ⟨j, hj, rfl, hg, hb⟩ := hrel
    by_cases hlt : j < n
    · obtain ⟨x, hx⟩ := some_at (show j < l.length by omega)
      obtain ⟨b, off, rfl, hbl, h0⟩ := sl_int (H.out.below hb) hx
      have hx' := Lib.hid hx
      clear hx
      cases hq : z == x
      · have hq' := Lib.hid hq
        have hne : ¬ z = x := by simpa using hq
        go_wp2
        go_roundw
        case rel => exact ⟨j + 1, by omega, by go_num, seen_more hg.out hx'.out hq'.out, hb⟩
        case measure => simp [intOf]; omega
      · have hq' := Lib.hid hq
        have he : z = x := by simpa using hq
        subst he
        go_wp2
        go_ret
        exact ⟨ret_int (idx_hit hg.out hx'.out hq'.out).symm, hb⟩
    · go_wp2
      go_ret
      exact ⟨ret_int (idx_miss fun a y ha => hg.out a y (by have := (List.getElem?_eq_some_iff.1 ha).1; omega) ha).symm, hb⟩

/-- At which place of those that have Ops left a plan stands. -/
def placeV (l : List Plan) (at_ : List Nat) (i : Nat) : Int := idx (fun y => (i : Int) == y) ((openL l at_).map fun i : Nat => (i : Int))
theorem place_calls (l : List Plan) (A : Option Addr) (n cap gd ga : Nat) (at_ : List Nat) (i : Nat) (w : World) (hl : Sl tPlan w (fun _ => True) (.slice A n cap) l) (hd : Desk w gd ga A n cap at_) (hn : n ≤ 1000) :
    Calls Try.prog 30 #[.pointer (some ⟨gd, 0, none⟩), .int .i64 (i : Int)] w fun e w' => e = .returned (.int .i64 (placeV l at_ i)) ∧ Below w.heap.size w w' := by
  have HO := Lib.hid (open_calls l A n cap gd ga at_ w hl hd hn)
  unfold placeV
  generalize (openL l at_).map (fun i : Nat => (i : Int)) = L at *
  clear hl hd
  go_enter Try.func30, Try.ntmps30
  go_wp2_with fail
  refine HO.out.mono ?_
  rintro e w1 ⟨v, rfl, hs, hb⟩
  obtain ⟨A1, c1, rfl, -⟩ := hs.form
  have HI := Lib.hid (index_ints (i : Int) L A1 L.length c1 w1 (hs.mono fun _ _ => trivial))
  have HB := Lib.hid hb
  clear hs hb HO
  obtain ⟨z, hz⟩ : ∃ z, idx (fun y => (i : Int) == y) L = z := ⟨_, rfl⟩
  rw [hz] at HI
  have HZ := Lib.hid hz
  clear hz
  go_wp2_with fail
  refine HI.out.mono ?_
  rintro e w2 ⟨rfl, hb2⟩
  go_wp2
  go_ret
  exact ⟨ret_int HZ.out.symm, HB.out.trans (hb2.mono HB.out.size)⟩
/-- Picks' test. -/
theorem picks_in (s s2 : Int) (P : Option Addr) (np cp : Nat) (g : Nat) (w : World) (hg : w.cell? ⟨g, 1, none⟩ = some (.int .i64 s2)) :
    Calls Try.prog 28 #[.agg #[.int .i64 s, .slice P np cp], .pointer (some ⟨g, 0, none⟩)] w fun e w' => e = .returned (.bool (s == s2)) ∧ Below w.heap.size w w' := by
  have HB : Hid (Below w.heap.size w (w.alloc (.cells #[.int .i64 s, .slice P np cp] 46))) := (Below.refl _ _).alloc (Nat.le_refl _) _
  have hgl := World.block_lt_of_cell? w _ hg
  go_enter Try.func28, Try.ntmps28
  go_wp2_with fail
  go_ret
  exact ⟨rfl, HB.out⟩
end Go.Proofs.Ytidjcdfdfbomiaa
