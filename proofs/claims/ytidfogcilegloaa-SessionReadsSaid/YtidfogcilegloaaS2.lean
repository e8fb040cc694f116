import Derived.Test.YtidfogcilegloaaS1
import Derived.Test.YtidfogcilegloaaC3
/-! A session in memory: an open one. -/
namespace Go.Proofs.Ytidfogcilegloaa
open Go.RowKit Go.Op

/-- All stays but the blocks of a list. -/
structure Chl (L : List Nat) (w w' : World) : Prop where
  os : w'.os = w.os
  tape : w'.tape = w.tape
  output : w'.output = w.output
  size : w.heap.size ≤ w'.heap.size
  block : ∀ b, b < w.heap.size → b ∉ L → w'.heap[b]? = w.heap[b]?
section
variable {L L' : List Nat} {w w' w'' : World}
theorem Chl.refl (L : List Nat) (w : World) : Chl L w w := ⟨rfl, rfl, rfl, Nat.le_refl _, fun _ _ _ => rfl⟩
theorem Chl.trans (h : Chl L w w') (k : Chl L' w' w'') (hL : ∀ b ∈ L', b ∈ L ∨ w.heap.size ≤ b) : Chl L w w'' :=
  ⟨k.os.trans h.os, k.tape.trans h.tape, k.output.trans h.output, Nat.le_trans h.size k.size, fun b hb hn => (k.block b (Nat.lt_of_lt_of_le hb h.size) (fun hm => by
    rcases hL b hm with h1 | h1
    · exact hn h1
    · omega)).trans (h.block b hb hn)⟩
theorem Chl.of_below (h : Below w.heap.size w w') : Chl L w w' := ⟨h.os, h.tape, h.output, h.size, fun b hb _ => h.block b hb⟩
theorem Chl.of_grown {row : Option Nat} (h : w.grownBy w' row) (hr : ∀ b, row = some b → b ∈ L ∨ w.heap.size ≤ b) : Chl L w w' :=
  ⟨h.os, h.tape, h.output, h.size, fun b hb hn => h.block b hb (fun e => by
    rcases hr b e.symm with h1 | h1
    · exact hn h1
    · omega)⟩
theorem Chl.mono (h : Chl L w w') (hL : ∀ b ∈ L, b ∈ L' ∨ w.heap.size ≤ b) : Chl L' w w' := ⟨h.os, h.tape, h.output, h.size, fun b hb hn => h.block b hb (fun hm => by
    rcases hL b hm with h1 | h1
    · exact hn h1
    · omega)⟩
theorem Chl.toBelow (h : Chl L w w') {z : Nat} (hz : z ≤ w.heap.size) (hL : ∀ b ∈ L, z ≤ b) : Below z w w' :=
  ⟨h.os, h.tape, h.output, h.size, fun b hb => h.block b (by omega) (fun hm => by have := hL b hm; omega)⟩
theorem Chl.setCell (w : World) {g : Nat} (hg : g ∈ L) (j : Nat) (v : Value) : Chl L w (w.setCell ⟨g, j, none⟩ v) := Chl.of_grown (setC_grown w g j v) fun b e => .inl (by injection e with e; rw [← e]; exact hg)
end
theorem own_step {α : Type} {t : Ty α} {w w' : World} {base e : Nat} {ok : Nat → Prop} {v : Value} {l : List α} (h : Own t w base e ok v l) (h1 : ∀ b, v.ownBlock = some b → w'.heap[b]? = w.heap[b]?) (h2 : ∀ b, ok b → b < w.heap.size → w'.heap[b]? = w.heap[b]?) : Own t w' base e ok v l := by
  obtain ⟨cs, ⟨e1, hr⟩, hc⟩ := h
  refine ⟨cs, ⟨e1, ?_⟩, (hc.inb.step fun b hb => h2 b hb.1.1 hb.2).mono fun b hb => hb.1⟩
  rcases hr with hr | ⟨g, cap, rest, e2, hb, hB, r⟩
  · exact .inl hr
  · subst e2
    exact .inr ⟨g, cap, rest, rfl, hb, (h1 g rfl).trans hB, r⟩
theorem own_more {α : Type} {t : Ty α} {w : World} {base e : Nat} {ok ok' : Nat → Prop} {v : Value} {l : List α} (h : Own t w base e ok v l) (hm : ∀ b, ok b → v.ownBlock ≠ some b → b < w.heap.size → ok' b) : Own t w base e ok' v l := by
  obtain ⟨cs, h1, hc⟩ := h
  exact ⟨cs, h1, hc.inb.mono fun b hb => ⟨hm b hb.1.1 hb.1.2 hb.2, hb.1.2⟩⟩

def seenV (l : List ByteArray) : List (ByteArray × Value) := l.map fun k => (k, .bool true)
/-- What holds of an open session's data. -/
structure Ses.Ok (s : Ses) : Prop where
  op : s.op = true
  id1 : 1 ≤ s.id
  id8 : s.id ≤ 8
  o0 : 0 ≤ s.ops
  o64 : s.ops ≤ 64
  nr : (s.reads.length : Int) ≤ s.ops
  ns : (s.seen.length : Int) ≤ s.ops
  keys : ∀ r ∈ s.reads, r.key.size ≤ 64
  seen : ∀ k, k ∈ s.seen ↔ ∃ r ∈ s.reads, r.scan = false ∧ r.key = k
structure Opn (w : World) (xb : Nat) (rv : Value) (qb nb sb : Nat) (X Y : List Nat) (s : Ses) : Prop where
  blk : Blk w xb (s.cells rv (.pointer (some ⟨qb, 0, none⟩)) (.map (some sb))) 53
  buf : B.Buf w qb nb s.mine
  map : Mp KS w sb (seenV s.seen)
  reads : Own C.tRead w 0 63 (· ∉ X) rv s.reads
  ok : s.Ok
  xY : xb ∈ Y
  qY : qb ∈ Y
  nY : nb ∈ Y
  sY : sb ∈ Y
  rY : ∀ b, rv.ownBlock = some b → b ∈ Y
  sub : ∀ b ∈ Y, b ∈ X
  lt : ∀ b ∈ X, b < w.heap.size
  xq : xb ≠ qb
  xn : xb ≠ nb
  xs : xb ≠ sb
  qs : qb ≠ sb
  ns : nb ≠ sb
  rx : rv.ownBlock ≠ some xb
  rq : rv.ownBlock ≠ some qb
  rn : rv.ownBlock ≠ some nb
  rs : rv.ownBlock ≠ some sb
section
variable {w w' : World} {xb : Nat} {rv : Value} {qb nb sb : Nat} {X X' Y : List Nat} {s s' : Ses}
theorem buf_same {l : List Pair} (h : B.Buf w qb nb l) (h1 : w'.heap[qb]? = w.heap[qb]?) (h2 : w'.heap[nb]? = w.heap[nb]?) : B.Buf w' qb nb l := by
  obtain ⟨V, hV, hp⟩ := h.map
  exact ⟨h1.trans h.blk, ⟨V, hV.same h2, hp⟩, h.rising, h.len⟩
/-- What turns none of a session's blocks, nor what stands outside X, keeps it. -/
theorem Opn.shift (h : Opn w xb rv qb nb sb X Y s) (_hs : w.heap.size ≤ w'.heap.size) (h1 : ∀ b ∈ Y, w'.heap[b]? = w.heap[b]?) (h2 : ∀ b, b < w.heap.size → b ∉ X → w'.heap[b]? = w.heap[b]?)
    (hsub : ∀ b ∈ X, b ∈ X') (hlt : ∀ b ∈ X', b < w'.heap.size) (hnew : ∀ b ∈ X', b ∈ X ∨ w.heap.size ≤ b) : Opn w' xb rv qb nb sb X' Y s :=
  ⟨(h1 _ h.xY).trans h.blk, buf_same h.buf (h1 _ h.qY) (h1 _ h.nY), h.map.same (h1 _ h.sY),
    own_step (own_more h.reads fun b hb _ hl hm => by
      rcases hnew b hm with h | h
      · exact hb h
      · omega) (fun b e => h1 b (h.rY b e)) (fun b hb hl => h2 b hl fun hm => hb (hsub b hm)), h.ok, h.xY, h.qY, h.nY, h.sY, h.rY, fun b hb => hsub b (h.sub b hb), hlt, h.xq, h.xn, h.xs, h.qs, h.ns, h.rx, h.rq, h.rn, h.rs⟩
theorem Opn.below (h : Opn w xb rv qb nb sb X Y s) (hb : Below w.heap.size w w') : Opn w' xb rv qb nb sb X Y s :=
  h.shift hb.size (fun b hm => hb.block b (h.lt b (h.sub b hm))) (fun b hl _ => hb.block b hl) (fun _ h => h) (fun b hm => Nat.lt_of_lt_of_le (h.lt b hm) hb.size) (fun _ h => .inl h)
/-- A cell of its own has turned. -/
theorem Opn.setx (h : Opn w xb rv qb nb sb X Y s) (j : Nat) (v : Value) (hc : (s.cells rv (.pointer (some ⟨qb, 0, none⟩)) (.map (some sb))).setIfInBounds j v = s'.cells rv (.pointer (some ⟨qb, 0, none⟩)) (.map (some sb)))
    (hm : s'.mine = s.mine) (hn : s'.seen = s.seen) (hr : s'.reads = s.reads) (hok : s'.Ok) : Opn (w.setCell ⟨xb, j, none⟩ v) xb rv qb nb sb X Y s' := by
  have hfar : ∀ (k : Nat), k ≠ xb → (w.setCell ⟨xb, j, none⟩ v).heap[k]? = w.heap[k]? := fun k hne => Below.heap_setCell w ⟨xb, j, none⟩ v k hne
  refine ⟨by rw [← hc]; exact h.blk.set j v, ?_, ?_, ?_, hok, h.xY, h.qY, h.nY, h.sY, h.rY, h.sub, fun b hb => by rw [World.size_setCell]; exact h.lt b hb, h.xq, h.xn, h.xs, h.qs, h.ns, h.rx, h.rq, h.rn, h.rs⟩
  · rw [hm]; exact buf_same h.buf (hfar _ h.xq.symm) (hfar _ h.xn.symm)
  · rw [hn]; exact h.map.same (hfar _ h.xs.symm)
  · rw [hr]; exact own_step h.reads (fun b e => hfar b (fun e' => h.rx (by rw [← e']; exact e))) (fun b hb _ => hfar b (fun e => hb (by rw [e]; exact h.sub _ h.xY)))
def Ses.bump (s : Ses) : Ses := { s with ops := s.ops + 1 }
theorem Ses.Ok.bump (h : s.Ok) (h64 : s.ops < 64) : s.bump.Ok := ⟨h.op, h.id1, h.id8, by have := h.o0; show 0 ≤ s.ops + 1; omega, by show s.ops + 1 ≤ 64; omega, by have := h.nr; show _ ≤ s.ops + 1; simp only [Ses.bump]; omega, by have := h.ns; show _ ≤ s.ops + 1; simp only [Ses.bump]; omega, h.keys, h.seen⟩
theorem Opn.bump (h : Opn w xb rv qb nb sb X Y s) (h64 : s.ops < 64) : Opn (w.setCell ⟨xb, 6, none⟩ (.int .i64 (s.ops + 1))) xb rv qb nb sb X Y s.bump :=
  h.setx 6 (.int .i64 (s.ops + 1)) rfl rfl rfl rfl (h.ok.bump h64)
/-- The buffer has turned. -/
theorem Opn.turn {l : List Pair} (h : Opn w xb rv qb nb sb X Y s) (hB : B.Buf w' qb nb l) (hg : w.grownBy w' (some nb)) : Opn w' xb rv qb nb sb X Y { s with mine := l } := by
  have hne : ∀ b ∈ X, b ≠ nb → w'.heap[b]? = w.heap[b]? := fun b hb hn => hg.block b (h.lt b hb) (fun e => hn (by injection e))
  refine ⟨(hne _ (h.sub _ h.xY) h.xn).trans h.blk, hB, h.map.same (hne _ (h.sub _ h.sY) h.ns.symm), ?_, ⟨h.ok.op, h.ok.id1, h.ok.id8, h.ok.o0, h.ok.o64, h.ok.nr, h.ok.ns, h.ok.keys, h.ok.seen⟩, h.xY, h.qY, h.nY, h.sY, h.rY, h.sub, fun b hb => Nat.lt_of_lt_of_le (h.lt b hb) hg.size, h.xq, h.xn, h.xs, h.qs, h.ns, h.rx, h.rq, h.rn, h.rs⟩
  exact own_step h.reads (fun b e => hne b (h.sub _ (h.rY b e)) (fun e' => h.rn (by rw [← e']; exact e))) (fun b hb hl => hg.block b hl (fun e => hb (by injection e with e; rw [e]; exact h.sub _ h.nY)))
end

/-! ### Put, Drop, Close -/
def Ses.put (s : Ses) (p : Pair) : Int × Ses := if s.op = false then (9, s) else if 64 ≤ s.ops then (13, s) else ((B.rput s.mine p).1, { s.bump with mine := (B.rput s.mine p).2 })
section
variable {w : World} {xb : Nat} {rv : Value} {qb nb sb : Nat} {X Y : List Nat} {s : Ses}
theorem Opn.pos (h : Opn w xb rv qb nb sb X Y s) : 0 < s.id := by have := h.ok.id1; omega
theorem sput_calls (h : Opn w xb rv qb nb sb X Y s) (k v : ByteArray) (hk : k.size ≤ 140737488351232) : Calls Try.prog 9 #[.pointer (some ⟨xb, 0, none⟩), .string k, .string v] w fun e w' =>
    e = .returned (.int .i64 (s.put ⟨k, v, false⟩).1) ∧ Opn w' xb rv qb nb sb X Y (s.put ⟨k, v, false⟩).2 ∧ Chl Y w w' := by
  have ho := h.ok.op
  unfold Ses.put
  rw [if_neg (by simp [ho])]
  by_cases h64 : 64 ≤ s.ops
  · rw [if_pos h64]
    have HM := Lib.hid (smay_many s xb _ _ _ w h.blk h.pos ho h64)
    have HO := Lib.hid h
    clear h ho h64
    go_enter Try.func9, Try.ntmps9
    go_wp2_with fail
    refine HM.out.mono ?_
    rintro e w' ⟨rfl, rfl⟩
    go_wp2
    go_ret
    exact ⟨rfl, HO.out, Chl.refl _ _⟩
  · rw [if_neg h64]
    have HM := Lib.hid (smay_ok s xb _ _ _ w h.blk h.pos ho h.ok.o0 (by omega))
    have h1 := h.bump (by omega)
    obtain ⟨w1, hw1⟩ : ∃ w1, w.setCell ⟨xb, 6, none⟩ (.int .i64 (s.ops + 1)) = w1 := ⟨_, rfl⟩
    have HC : Hid (Chl Y w w1) := by rw [← hw1]; exact Chl.setCell w h.xY _ _
    rw [hw1] at HM h1
    have c5 : w1.cell? ⟨xb, 5, none⟩ = some (.pointer (some ⟨qb, 0, none⟩)) := h1.blk.cell 5
    have HP := Lib.hid (B.put_calls qb nb s.mine k v w1 h1.buf hk)
    have HO := Lib.hid h1
    obtain ⟨r, hr⟩ : ∃ r, B.rput s.mine ⟨k, v, false⟩ = r := ⟨_, rfl⟩
    rw [hr] at HP ⊢
    clear h ho h64 hw1 h1 hr
    go_enter Try.func9, Try.ntmps9
    go_wp2_with fail
    refine HM.out.mono ?_
    rintro e w' ⟨rfl, rfl⟩
    go_wp2_with fail
    refine HP.out.mono ?_
    rintro e w2 ⟨rfl, hB, hg⟩
    have HB := Lib.hid hB
    have HG := Lib.hid hg
    clear hB hg
    go_wp2
    go_ret
    exact ⟨rfl, HO.out.turn HB.out HG.out, HC.out.trans (L' := Y) (Chl.of_grown HG.out fun b e => .inl (by injection e with e; rw [← e]; exact HO.out.nY)) fun b hb => .inl hb⟩
theorem sdrop_calls (h : Opn w xb rv qb nb sb X Y s) (k : ByteArray) (hk : k.size ≤ 140737488351232) : Calls Try.prog 18 #[.pointer (some ⟨xb, 0, none⟩), .string k] w fun e w' =>
    e = .returned (.int .i64 (s.put ⟨k, ⟨#[]⟩, true⟩).1) ∧ Opn w' xb rv qb nb sb X Y (s.put ⟨k, ⟨#[]⟩, true⟩).2 ∧ Chl Y w w' := by
  have ho := h.ok.op
  unfold Ses.put
  rw [if_neg (by simp [ho])]
  by_cases h64 : 64 ≤ s.ops
  · rw [if_pos h64]
    have HM := Lib.hid (smay_many s xb _ _ _ w h.blk h.pos ho h64)
    have HO := Lib.hid h
    clear h ho h64
    go_enter Try.func18, Try.ntmps18
    go_wp2_with fail
    refine HM.out.mono ?_
    rintro e w' ⟨rfl, rfl⟩
    go_wp2
    go_ret
    exact ⟨rfl, HO.out, Chl.refl _ _⟩
  · rw [if_neg h64]
    have HM := Lib.hid (smay_ok s xb _ _ _ w h.blk h.pos ho h.ok.o0 (by omega))
    have h1 := h.bump (by omega)
    obtain ⟨w1, hw1⟩ : ∃ w1, w.setCell ⟨xb, 6, none⟩ (.int .i64 (s.ops + 1)) = w1 := ⟨_, rfl⟩
    have HC : Hid (Chl Y w w1) := by rw [← hw1]; exact Chl.setCell w h.xY _ _
    rw [hw1] at HM h1
    have c5 : w1.cell? ⟨xb, 5, none⟩ = some (.pointer (some ⟨qb, 0, none⟩)) := h1.blk.cell 5
    have HP := Lib.hid (B.drop_calls qb nb s.mine k w1 h1.buf hk)
    have HO := Lib.hid h1
    obtain ⟨r, hr⟩ : ∃ r, B.rput s.mine ⟨k, ⟨#[]⟩, true⟩ = r := ⟨_, rfl⟩
    rw [hr] at HP ⊢
    clear h ho h64 hw1 h1 hr
    go_enter Try.func18, Try.ntmps18
    go_wp2_with fail
    refine HM.out.mono ?_
    rintro e w' ⟨rfl, rfl⟩
    go_wp2_with fail
    refine HP.out.mono ?_
    rintro e w2 ⟨rfl, hB, hg⟩
    have HB := Lib.hid hB
    have HG := Lib.hid hg
    clear hB hg
    go_wp2
    go_ret
    exact ⟨rfl, HO.out.turn HB.out HG.out, HC.out.trans (L' := Y) (Chl.of_grown HG.out fun b e => .inl (by injection e with e; rw [← e]; exact HO.out.nY)) fun b hb => .inl hb⟩
end
section
variable (s : Ses) (xb : Nat) (rv mv sv : Value) (w : World) (hb : Blk w xb (s.cells rv mv sv) 53) (hi : 0 < s.id) (ho : s.op = false)
include hb hi ho
theorem sput_shut (k v : ByteArray) : Calls Try.prog 9 #[.pointer (some ⟨xb, 0, none⟩), .string k, .string v] w fun e w' => e = .returned (.int .i64 9) ∧ w = w' := by
  have HM := Lib.hid (smay_shut s xb rv mv sv w hb hi ho)
  clear hb hi ho
  go_enter Try.func9, Try.ntmps9
  go_wp2_with fail
  refine HM.out.mono ?_
  rintro e w' ⟨rfl, rfl⟩
  go_wp2
  go_ret
  exact ⟨rfl, rfl⟩
theorem sclose_shut : Calls Try.prog 13 #[.pointer (some ⟨xb, 0, none⟩)] w fun e w' => e = .returned (.bool false) ∧ w = w' := by
  have HM := Lib.hid (smade_calls xb s.id w (hb.cell 0) hi)
  have c1 : w.cell? ⟨xb, 1, none⟩ = some (.bool false) := by rw [← ho]; exact hb.cell 1
  clear hb hi ho
  go_enter Try.func13, Try.ntmps13
  go_wp2_with fail
  refine HM.out.mono ?_
  rintro e w' ⟨rfl, rfl⟩
  go_wp2
  go_ret
  exact ⟨rfl, rfl⟩
end
/-- The transaction's five cells are written. -/
def workW (w : World) (xb : Nat) (o : Bool) (n : Int) (st : Bool) (r m : Value) : World := ((((w.setCell ⟨xb, 1, none⟩ (.bool o)).setCell ⟨xb, 2, none⟩ (.int .i64 n)).setCell ⟨xb, 3, none⟩ (.bool st)).setCell ⟨xb, 4, none⟩ r).setCell ⟨xb, 5, none⟩ m
theorem workW_blk {w : World} {xb : Nat} {s : Ses} {rv mv sv : Value} (hb : Blk w xb (s.cells rv mv sv) 53) (o : Bool) (n : Int) (st : Bool) (r m : Value) : Blk (workW w xb o n st r m) xb #[.int .i64 s.id, .bool o, .int .i64 n, .bool st, r, m, .int .i64 s.ops, sv] 53 :=
  ((((hb.set 1 (.bool o)).set 2 (.int .i64 n)).set 3 (.bool st)).set 4 r).set 5 m
theorem workW_grown (w : World) (xb : Nat) (o : Bool) (n : Int) (st : Bool) (r m : Value) : w.grownBy (workW w xb o n st r m) (some xb) :=
  (((((setC_grown w xb 1 _).trans (setC_grown _ xb 2 _)).trans (setC_grown _ xb 3 _)).trans (setC_grown _ xb 4 _)).trans (setC_grown _ xb 5 _))
theorem sclose_calls (s : Ses) (xb : Nat) (rv mv sv : Value) (w : World) (hb : Blk w xb (s.cells rv mv sv) 53) (hi : 0 < s.id) (ho : s.op = true) : Calls Try.prog 13 #[.pointer (some ⟨xb, 0, none⟩)] w fun e w' =>
    e = .returned (.bool true) ∧ Blk w' xb ((Ses.shut s.id).cells (.slice none 0 0) (.pointer none) sv) 53 ∧ w.grownBy w' (some xb) := by
  have HM := Lib.hid (smade_calls xb s.id w (hb.cell 0) hi)
  obtain ⟨si, so, ss, st, sr, sm, sp, sn⟩ := s
  obtain rfl : so = true := ho
  have c1 := hb.cell 1
  have c2 := hb.cell 2
  have c3 := hb.cell 3
  have c4 := hb.cell 4
  have c5 := hb.cell 5
  have f1 := hb.frozen 1
  have f2 := hb.frozen 2
  have f3 := hb.frozen 3
  have f4 := hb.frozen 4
  have f5 := hb.frozen 5
  have HB := Lib.hid hb
  simp only [Ses.cells, List.getElem?_toArray, List.getElem?_cons_succ, List.getElem?_cons_zero] at c1 c2 c3 c4 c5
  clear hb hi
  go_enter Try.func13, Try.ntmps13
  go_wp2_with fail
  refine HM.out.mono ?_
  rintro e w' ⟨rfl, rfl⟩
  go_wp2_with fail
  have hW := workW_blk HB.out false 0 false (.slice none 0 0) (.pointer none)
  have hG := workW_grown w xb false 0 false (.slice none 0 0) (.pointer none)
  rw [workW] at hW hG
  generalize ((((w.setCell ⟨xb, 1, none⟩ (.bool false)).setCell ⟨xb, 2, none⟩ (.int .i64 0)).setCell ⟨xb, 3, none⟩ (.bool false)).setCell ⟨xb, 4, none⟩ (.slice none 0 0)).setCell ⟨xb, 5, none⟩ (.pointer none) = w1 at *
  have HS := Lib.hid (store_calls xb 6 sp 0 w1 (hW.cell 6) (hW.frozen 6))
  have HR : Hid (Blk (w1.setCell ⟨xb, 6, none⟩ (.int .i64 0)) xb ((Ses.shut si).cells (.slice none 0 0) (.pointer none) sv) 53) := hW.set 6 (.int .i64 0)
  have HG : Hid (w.grownBy (w1.setCell ⟨xb, 6, none⟩ (.int .i64 0)) (some xb)) := hG.trans (setC_grown _ _ _ _)
  clear hW hG HB c1 c2 c3 c4 c5 f1 f2 f3 f4 f5
  refine HS.out.mono ?_
  rintro e w' ⟨rfl, rfl⟩
  go_wp2
  go_ret
  exact ⟨rfl, HR.out, HG.out⟩
end Go.Proofs.Ytidfogcilegloaa
