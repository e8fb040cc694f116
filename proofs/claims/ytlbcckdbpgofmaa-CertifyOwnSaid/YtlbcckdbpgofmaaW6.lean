import Derived.Test.YtlbcckdbpgofmaaW5
/-! Clash, Stale and May. -/
namespace Go.Proofs.Ytlbcckdbpgofmaa
open Go.RowKit Go.Op

theorem rec_cells {w : World} {g e : Nat} (s sn : Int) (st : Bool) (R : Option Addr) (nr cr : Nat) (W : Option Addr) (nw cw : Nat) (h : Blk w g #[.int .i64 s, .int .i64 sn, .bool st, .slice R nr cr, .slice W nw cw] e) : w.cell? ⟨g, 0, none⟩ = some (.int .i64 s) ∧ w.cell? ⟨g, 1, none⟩ = some (.int .i64 sn) ∧ w.cell? ⟨g, 2, none⟩ = some (.bool st) ∧ w.cell? ⟨g, 3, none⟩ = some (.slice R nr cr) ∧ w.cell? ⟨g, 4, none⟩ = some (.slice W nw cw) :=
  ⟨h.cell 0, h.cell 1, h.cell 2, h.cell 3, h.cell 4⟩

/-- Clash's inner test: did the record in the box write the pair's key? -/
theorem clash_in (s sn : Int) (st : Bool) (R : Option Addr) (nr cr : Nat) (W : Option Addr) (nw cw : Nat) (o : List Pair) (g : Nat) (p : Pair) (w : World) (hg : Blk w g #[.int .i64 s, .int .i64 sn, .bool st, .slice R nr cr, .slice W nw cw] 25) (hl : Sl tPair w (fun _ => True) (.slice W nw cw) o) (hn : nw ≤ 4611686018427387904) :
    Calls Try.prog 29 #[.agg #[.string p.key, .string p.val, .bool p.dead], .pointer (some ⟨g, 0, none⟩)] w fun e w' => e = .returned (.bool (wrote o p.key)) ∧ Below w.heap.size w w' := by
  have hb0 : Below w.heap.size w (w.alloc (.cells #[.string p.key, .string p.val, .bool p.dead] 37)) := (Below.refl _ _).alloc (Nat.le_refl _) _
  have HC := Lib.hid (wrote_calls s sn st R nr cr W nw cw o p.key _ (hl.below hb0) hn)
  have HB := Lib.hid hb0
  obtain ⟨c0, c1, c2, c3, c4⟩ := rec_cells _ _ _ _ _ _ _ _ _ hg
  have hgl := hg.lt
  clear hb0 hl hg
  go_enter Try.func29, Try.ntmps29
  go_wp2_with fail
  refine HC.out.mono ?_
  rintro e w' ⟨rfl, hb⟩
  go_wp2
  go_ret
  exact ⟨rfl, HB.out.trans (hb.mono HB.out.size)⟩

/-- Clash's test: did this record write what the one in the box writes? -/
theorem clash_out (s sn : Int) (st : Bool) (R : Option Addr) (nr cr : Nat) (W : Option Addr) (nw cw : Nat) (s2 sn2 : Int) (st2 : Bool) (R2 : Option Addr) (nr2 cr2 : Nat) (W2 : Option Addr) (nw2 cw2 : Nat) (ws o : List Pair) (g : Nat) (w : World) (hg : Blk w g #[.int .i64 s2, .int .i64 sn2, .bool st2, .slice R2 nr2 cr2, .slice W2 nw2 cw2] 25) (hw : Sl tPair w (fun _ => True) (.slice W2 nw2 cw2) ws) (hl : Sl tPair w (fun _ => True) (.slice W nw cw) o) (hn : nw ≤ 4611686018427387904) :
    Calls Try.prog 27 #[.agg #[.int .i64 s, .int .i64 sn, .bool st, .slice R nr cr, .slice W nw cw], .pointer (some ⟨g, 0, none⟩)] w fun e w' => e = .returned (.bool (ws.any fun p => wrote o p.key)) ∧ Below w.heap.size w w' := by
  have hb0 : Below w.heap.size w (w.alloc (.cells #[.int .i64 s, .int .i64 sn, .bool st, .slice R nr cr, .slice W nw cw] 25)) := (Below.refl _ _).alloc (Nat.le_refl _) _
  have hB := Blk.new w #[.int .i64 s, .int .i64 sn, .bool st, .slice R nr cr, .slice W nw cw] 25
  have HC := Lib.hid (any_pairs (fun p => wrote o p.key) 29 #[.pointer (some ⟨w.heap.size, 0, none⟩)] ws W2 nw2 cw2 _ (hw.below hb0) (fun _ _ => by rfl)
    (fun p W' _ h => clash_in s sn st R nr cr W nw cw o w.heap.size p W' (hB.below h hB.lt) (hl.below (hb0.trans (h.mono hb0.size))) hn))
  have HB := Lib.hid hb0
  obtain ⟨c0, c1, c2, c3, c4⟩ := rec_cells _ _ _ _ _ _ _ _ _ hg
  have hgl := hg.lt
  clear hb0 hl hg hw hB
  go_enter Try.func27, Try.ntmps27
  go_wp2_with fail
  refine HC.out.mono ?_
  rintro e w' ⟨rfl, hb⟩
  go_wp2
  go_ret
  exact ⟨rfl, HB.out.trans (hb.mono HB.out.size)⟩

/-- Are the records' writes and reads no more than a machine holds? -/
def Small (l : List Rec) : Prop := ∀ o ∈ l, o.writes.length ≤ 4611686018427387904 ∧ o.reads.length ≤ 4611686018427387904

theorem clash_calls (s sn : Int) (st : Bool) (R : Option Addr) (nr cr : Nat) (W : Option Addr) (nw cw : Nat) (ws : List Pair) (l : List Rec) (A : Option Addr) (n cap : Nat) (w : World) (hw : Sl tPair w (fun _ => True) (.slice W nw cw) ws) (hl : Sl tRec w (fun _ => True) (.slice A n cap) l) (hs : Small l) :
    Calls Try.prog 11 #[.agg #[.int .i64 s, .int .i64 sn, .bool st, .slice R nr cr, .slice W nw cw], .slice A n cap] w fun e w' => e = .returned (.int .i64 (clash ws l)) ∧ Below w.heap.size w w' := by
  have hb0 : Below w.heap.size w (w.alloc (.cells #[.int .i64 s, .int .i64 sn, .bool st, .slice R nr cr, .slice W nw cw] 25)) := (Below.refl _ _).alloc (Nat.le_refl _) _
  have hB := Blk.new w #[.int .i64 s, .int .i64 sn, .bool st, .slice R nr cr, .slice W nw cw] 25
  have HC := Lib.hid (index_recs (fun o => ws.any fun p => wrote o.writes p.key) 27 #[.pointer (some ⟨w.heap.size, 0, none⟩)] l A n cap _ (hl.below hb0) (fun _ _ => by rfl)
    (fun o R2 nr2 cr2 W2 nw2 cw2 W' ho h _ hu => clash_out o.sess o.snap o.strict R2 nr2 cr2 W2 nw2 cw2 s sn st R nr cr W nw cw ws o.writes w.heap.size W' (hB.below h hB.lt) (hw.below (hb0.trans (h.mono hb0.size))) hu (by have := (hs o ho).1; have := hu.length.1; omega)))
  have HB := Lib.hid hb0
  clear hb0 hl hw hB
  go_enter Try.func11, Try.ntmps11
  go_wp2_with fail
  refine HC.out.mono ?_
  rintro e w' ⟨rfl, hb⟩
  go_wp2
  go_ret
  exact ⟨rfl, HB.out.trans (hb.mono HB.out.size)⟩

/-- Stale's inner test: did the record in the box write what was read? -/
theorem stale_in (s sn : Int) (st : Bool) (R : Option Addr) (nr cr : Nat) (W : Option Addr) (nw cw : Nat) (o : List Pair) (g : Nat) (x : Rd) (P : Option Addr) (np cp : Nat) (w : World) (hg : Blk w g #[.int .i64 s, .int .i64 sn, .bool st, .slice R nr cr, .slice W nw cw] 25) (hl : Sl tPair w (fun _ => True) (.slice W nw cw) o) (hn : nw ≤ 4611686018427387904) :
    Calls Try.prog 32 #[.agg #[.bool x.scan, .string x.key, .string x.to, .slice P np cp], .pointer (some ⟨g, 0, none⟩)] w fun e w' => e = .returned (.bool (touches o x)) ∧ Below w.heap.size w w' := by
  have hb0 : Below w.heap.size w (w.alloc (.cells #[.bool x.scan, .string x.key, .string x.to, .slice P np cp] 41)) := (Below.refl _ _).alloc (Nat.le_refl _) _
  have HC := Lib.hid (touches_calls s sn st R nr cr W nw cw x.scan x.key x.to x.pairs P np cp o _ (hl.below hb0) hn)
  have HB := Lib.hid hb0
  obtain ⟨c0, c1, c2, c3, c4⟩ := rec_cells _ _ _ _ _ _ _ _ _ hg
  have hgl := hg.lt
  clear hb0 hl hg
  go_enter Try.func32, Try.ntmps32
  go_wp2_with fail
  refine HC.out.mono ?_
  rintro e w' ⟨rfl, hb⟩
  go_wp2
  go_ret
  exact ⟨rfl, HB.out.trans (hb.mono HB.out.size)⟩
theorem stale_out (s sn : Int) (st : Bool) (R : Option Addr) (nr cr : Nat) (W : Option Addr) (nw cw : Nat) (s2 sn2 : Int) (st2 : Bool) (R2 : Option Addr) (nr2 cr2 : Nat) (W2 : Option Addr) (nw2 cw2 : Nat) (rs : List Rd) (o : List Pair) (g : Nat) (w : World) (hg : Blk w g #[.int .i64 s2, .int .i64 sn2, .bool st2, .slice R2 nr2 cr2, .slice W2 nw2 cw2] 25) (hr : Sl tRead w (fun _ => True) (.slice R2 nr2 cr2) rs) (hl : Sl tPair w (fun _ => True) (.slice W nw cw) o) (hn : nw ≤ 4611686018427387904) :
    Calls Try.prog 30 #[.agg #[.int .i64 s, .int .i64 sn, .bool st, .slice R nr cr, .slice W nw cw], .pointer (some ⟨g, 0, none⟩)] w fun e w' => e = .returned (.bool (rs.any fun x => touches o x)) ∧ Below w.heap.size w w' := by
  have hb0 : Below w.heap.size w (w.alloc (.cells #[.int .i64 s, .int .i64 sn, .bool st, .slice R nr cr, .slice W nw cw] 25)) := (Below.refl _ _).alloc (Nat.le_refl _) _
  have hB := Blk.new w #[.int .i64 s, .int .i64 sn, .bool st, .slice R nr cr, .slice W nw cw] 25
  have HC := Lib.hid (any_reads (fun x => touches o x) 32 #[.pointer (some ⟨w.heap.size, 0, none⟩)] rs R2 nr2 cr2 _ (hr.below hb0) (fun _ _ => by rfl)
    (fun x P np cp W' _ h _ => stale_in s sn st R nr cr W nw cw o w.heap.size x P np cp W' (hB.below h hB.lt) (hl.below (hb0.trans (h.mono hb0.size))) hn))
  have HB := Lib.hid hb0
  obtain ⟨c0, c1, c2, c3, c4⟩ := rec_cells _ _ _ _ _ _ _ _ _ hg
  have hgl := hg.lt
  clear hb0 hl hg hr hB
  go_enter Try.func30, Try.ntmps30
  go_wp2_with fail
  refine HC.out.mono ?_
  rintro e w' ⟨rfl, hb⟩
  go_wp2
  go_ret
  exact ⟨rfl, HB.out.trans (hb.mono HB.out.size)⟩
theorem stale_calls (s sn : Int) (st : Bool) (R : Option Addr) (nr cr : Nat) (W : Option Addr) (nw cw : Nat) (rs : List Rd) (l : List Rec) (A : Option Addr) (n cap : Nat) (w : World) (hr : Sl tRead w (fun _ => True) (.slice R nr cr) rs) (hl : Sl tRec w (fun _ => True) (.slice A n cap) l) (hs : Small l) :
    Calls Try.prog 13 #[.agg #[.int .i64 s, .int .i64 sn, .bool st, .slice R nr cr, .slice W nw cw], .slice A n cap] w fun e w' => e = .returned (.int .i64 (stale rs l)) ∧ Below w.heap.size w w' := by
  have hb0 : Below w.heap.size w (w.alloc (.cells #[.int .i64 s, .int .i64 sn, .bool st, .slice R nr cr, .slice W nw cw] 25)) := (Below.refl _ _).alloc (Nat.le_refl _) _
  have hB := Blk.new w #[.int .i64 s, .int .i64 sn, .bool st, .slice R nr cr, .slice W nw cw] 25
  have HC := Lib.hid (index_recs (fun o => rs.any fun x => touches o.writes x) 30 #[.pointer (some ⟨w.heap.size, 0, none⟩)] l A n cap _ (hl.below hb0) (fun _ _ => by rfl)
    (fun o R2 nr2 cr2 W2 nw2 cw2 W' ho h _ hu => stale_out o.sess o.snap o.strict R2 nr2 cr2 W2 nw2 cw2 s sn st R nr cr W nw cw rs o.writes w.heap.size W' (hB.below h hB.lt) (hr.below (hb0.trans (h.mono hb0.size))) hu (by have := (hs o ho).1; have := hu.length.1; omega)))
  have HB := Lib.hid hb0
  clear hb0 hl hr hB
  go_enter Try.func13, Try.ntmps13
  go_wp2_with fail
  refine HC.out.mono ?_
  rintro e w' ⟨rfl, hb⟩
  go_wp2
  go_ret
  exact ⟨rfl, HB.out.trans (hb.mono HB.out.size)⟩
end Go.Proofs.Ytlbcckdbpgofmaa
