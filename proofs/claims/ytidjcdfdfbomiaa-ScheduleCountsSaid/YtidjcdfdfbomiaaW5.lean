import Derived.Test.YtidjcdfdfbomiaaW4
/-! A plan's next Op. -/
namespace Go.Proofs.Ytidjcdfdfbomiaa
open Go.RowKit Go.Op

set_option maxHeartbeats 2000000 in
theorem do_calls (l : List Plan) (A : Option Addr) (n cap gd ga : Nat) (at_ : List Nat) (i : Nat) (p : Plan) (a : Nat) (o : HOp) (w : World) (hl : Sl tPlan w (fun _ => True) (.slice A n cap) l) (hd : Desk w gd ga A n cap at_) (hp : l[i]? = some p) (ha : at_[i]? = some a) (ho : p.ops[a]? = some o) :
    Calls Try.prog 26 #[.pointer (some ⟨gd, 0, none⟩), .int .i64 (i : Int)] w fun e w' => e = .returned (.agg #[.int .i64 o.kind, .int .i64 o.sess, .bool o.strict, .string o.key, .string o.val, .int .i64 o.n]) ∧ Desk w' gd ga A n cap (at_.set i (a + 1)) ∧ w.grownBy w' (some ga) := by
  obtain ⟨hln, hcap, hcm⟩ := hl.length
  have hi : i < n := by rw [← hln]; exact (List.getElem?_eq_some_iff.1 hp).1
  obtain ⟨b, off, P, np, cp, rfl, hbl, g0, g1, hP⟩ := sl_plan hl hp
  have hpn := hP.length.1
  have hpc := hP.length.2
  have hap : a < np := by rw [← hpn]; exact (List.getElem?_eq_some_iff.1 ho).1
  obtain ⟨b', off', rfl, hbl', o0, o1, o2, o3, o4, o5⟩ := sl_op hP ho
  obtain ⟨k0, k1, k2⟩ := hd.cells
  obtain ⟨k3, k4⟩ := k2 i a ha
  obtain ⟨q0, q1⟩ := hd.lt
  clear hl hP k2
  go_enter Try.func26, Try.ntmps26
  go_wp2_with fail
  go_region
  have hb : Below w.heap.size w (((w.alloc (.cells #[.int .i64 0, .int .i64 0, .bool false, .string ⟨#[]⟩, .string ⟨#[]⟩, .int .i64 0] 48)).alloc (.cells #[.int .i64 o.kind, .int .i64 o.sess, .bool o.strict, .string o.key, .string o.val, .int .i64 o.n] 48)).drew) := (((Below.refl _ _).alloc (Nat.le_refl _) _).alloc (by simp) _).drew
  have HD := Lib.hid (hd.below hb)
  have HB := Lib.hid hb
  have c5 : Blk (((w.alloc (.cells #[.int .i64 0, .int .i64 0, .bool false, .string ⟨#[]⟩, .string ⟨#[]⟩, .int .i64 0] 48)).alloc (.cells #[.int .i64 o.kind, .int .i64 o.sess, .bool o.strict, .string o.key, .string o.val, .int .i64 o.n] 48)).drew) (w.heap.size + 1) #[.int .i64 o.kind, .int .i64 o.sess, .bool o.strict, .string o.key, .string o.val, .int .i64 o.n] 48 := blk_drew (blk_new (by simp))
  have c4 : Blk (((w.alloc (.cells #[.int .i64 0, .int .i64 0, .bool false, .string ⟨#[]⟩, .string ⟨#[]⟩, .int .i64 0] 48)).alloc (.cells #[.int .i64 o.kind, .int .i64 o.sess, .bool o.strict, .string o.key, .string o.val, .int .i64 o.n] 48)).drew) w.heap.size #[.int .i64 0, .int .i64 0, .bool false, .string ⟨#[]⟩, .string ⟨#[]⟩, .int .i64 0] 48 := blk_drew ((Blk.new w _ 48).alloc _)
  have HC4 := Lib.hid c4
  have hga : ga ≠ w.heap.size := by omega
  have hga2 : ga ≠ w.heap.size + 1 := by omega
  have hgd := Lib.hid q0
  have hgal := Lib.hid q1
  clear hb hd k0 k1 k3 k4 q0 q1 g0 g1 o0 o1 o2 o3 o4 o5 hbl hbl'
  generalize ((w.alloc (.cells #[.int .i64 0, .int .i64 0, .bool false, .string ⟨#[]⟩, .string ⟨#[]⟩, .int .i64 0] 48)).alloc (.cells #[.int .i64 o.kind, .int .i64 o.sess, .bool o.strict, .string o.key, .string o.val, .int .i64 o.n] 48)).drew = w1 at *
  obtain ⟨k0, k1, k2⟩ := HD.out.cells
  obtain ⟨k3, k4⟩ := k2 i a ha
  obtain ⟨q0, q1⟩ := HD.out.lt
  obtain ⟨x0, x1, x2, x3, x4, x5⟩ := op_cells o c5
  have q5 := c5.lt
  have q4 := c4.lt
  have f0 := c4.frozen 0
  have f1 := c4.frozen 1
  have f2 := c4.frozen 2
  have f3 := c4.frozen 3
  have f4 := c4.frozen 4
  have f5 := c4.frozen 5
  have y0 := c4.cell 0
  have y1 := c4.cell 1
  have y2 := c4.cell 2
  have y3 := c4.cell 3
  have y4 := c4.cell 4
  have y5 := c4.cell 5
  simp at y0 y1 y2 y3 y4 y5
  clear k2 c4 c5
  go_wp2_with fail
  have hD2 : Hid (Desk (w1.setCell ⟨ga, i, none⟩ (.int .i64 ((a : Int) + 1))) gd ga (some ⟨b, off, none⟩) n cap (at_.set i (a + 1))) := HD.out.set i (a + 1)
  have hC2 := Lib.hid (HC4.out.far (p := ⟨ga, i, none⟩) (Ne.symm hga) (.int .i64 ((a : Int) + 1)))
  have hG2 : Hid (w.grownBy (w1.setCell ⟨ga, i, none⟩ (.int .i64 ((a : Int) + 1))) (some ga)) :=
    ⟨HB.out.os, HB.out.tape, HB.out.output, by simpa using HB.out.size, fun k hk hne => (Below.heap_setCell _ _ _ _ (by show k ≠ ga; intro e; exact hne (by rw [e]))).trans (HB.out.block k hk)⟩
  clear k0 k1 k3 k4 q0 x0 x1 x2 x3 x4 x5 q5 q4 f0 f1 f2 f3 f4 f5 y0 y1 y2 y3 y4 y5
  generalize w1.setCell ⟨ga, i, none⟩ (.int .i64 ((a : Int) + 1)) = w2 at *
  have hB3 : Below w.heap.size w2 ((((((w2.setCell ⟨w.heap.size, 0, none⟩ (.int .i64 o.kind)).setCell ⟨w.heap.size, 1, none⟩ (.int .i64 o.sess)).setCell ⟨w.heap.size, 2, none⟩ (.bool o.strict)).setCell ⟨w.heap.size, 3, none⟩ (.string o.key)).setCell ⟨w.heap.size, 4, none⟩ (.string o.val)).setCell ⟨w.heap.size, 5, none⟩ (.int .i64 o.n)) := by
    have hs : ∀ (X : World) (j : Nat) (u : Value), Below w.heap.size w2 X → Below w.heap.size w2 (X.setCell ⟨w.heap.size, j, none⟩ u) := fun X j u h => h.setCell (Nat.le_refl _) u
    exact hs _ _ _ (hs _ _ _ (hs _ _ _ (hs _ _ _ (hs _ _ _ (hs _ _ _ (Below.refl _ _))))))
  have hC3 : Blk ((((((w2.setCell ⟨w.heap.size, 0, none⟩ (.int .i64 o.kind)).setCell ⟨w.heap.size, 1, none⟩ (.int .i64 o.sess)).setCell ⟨w.heap.size, 2, none⟩ (.bool o.strict)).setCell ⟨w.heap.size, 3, none⟩ (.string o.key)).setCell ⟨w.heap.size, 4, none⟩ (.string o.val)).setCell ⟨w.heap.size, 5, none⟩ (.int .i64 o.n)) w.heap.size #[.int .i64 o.kind, .int .i64 o.sess, .bool o.strict, .string o.key, .string o.val, .int .i64 o.n] 48 := by
    have := (((((hC2.out.set 0 (.int .i64 o.kind)).set 1 (.int .i64 o.sess)).set 2 (.bool o.strict)).set 3 (.string o.key)).set 4 (.string o.val)).set 5 (.int .i64 o.n)
    simpa using this
  have hgl : w.heap.size ≤ w2.heap.size := hG2.out.size
  have hD3 : Desk ((((((w2.setCell ⟨w.heap.size, 0, none⟩ (.int .i64 o.kind)).setCell ⟨w.heap.size, 1, none⟩ (.int .i64 o.sess)).setCell ⟨w.heap.size, 2, none⟩ (.bool o.strict)).setCell ⟨w.heap.size, 3, none⟩ (.string o.key)).setCell ⟨w.heap.size, 4, none⟩ (.string o.val)).setCell ⟨w.heap.size, 5, none⟩ (.int .i64 o.n)) gd ga (some ⟨b, off, none⟩) n cap (at_.set i (a + 1)) := by
    obtain ⟨h1, ⟨cs, h2, h3⟩, h4⟩ := hD2.out
    have e1 : gd < w.heap.size := hgd.out
    have e2 : ga < w.heap.size := hgal.out
    exact ⟨h1.below hB3 e1, ⟨cs, h2.below hB3 e2, h3⟩, h4⟩
  have hG3 : w.grownBy ((((((w2.setCell ⟨w.heap.size, 0, none⟩ (.int .i64 o.kind)).setCell ⟨w.heap.size, 1, none⟩ (.int .i64 o.sess)).setCell ⟨w.heap.size, 2, none⟩ (.bool o.strict)).setCell ⟨w.heap.size, 3, none⟩ (.string o.key)).setCell ⟨w.heap.size, 4, none⟩ (.string o.val)).setCell ⟨w.heap.size, 5, none⟩ (.int .i64 o.n)) (some ga) := ⟨hB3.os.trans hG2.out.os, hB3.tape.trans hG2.out.tape, hB3.output.trans hG2.out.output, Nat.le_trans hG2.out.size hB3.size, fun k hk hne => (hB3.block k hk).trans (hG2.out.block k hk hne)⟩
  generalize ((((((w2.setCell ⟨w.heap.size, 0, none⟩ (.int .i64 o.kind)).setCell ⟨w.heap.size, 1, none⟩ (.int .i64 o.sess)).setCell ⟨w.heap.size, 2, none⟩ (.bool o.strict)).setCell ⟨w.heap.size, 3, none⟩ (.string o.key)).setCell ⟨w.heap.size, 4, none⟩ (.string o.val)).setCell ⟨w.heap.size, 5, none⟩ (.int .i64 o.n)) = w3 at *
  obtain ⟨y0, y1, y2, y3, y4, y5⟩ := op_cells o hC3
  refine bodyPost_ret (v := .agg #[.int .i64 o.kind, .int .i64 o.sess, .bool o.strict, .string o.key, .string o.val, .int .i64 o.n]) ?_ rfl ⟨rfl, hD3, hG3⟩
  simp [results, Try.results26, go_sem, y0, y1, y2, y3, y4, y5]
end Go.Proofs.Ytidjcdfdfbomiaa
