import Derived.Test.YtlbcckdbpgofmaaRep
import Derived.Test.YtlbcckdbpgofmaaPure
import Derived.Deep.QuietTactic
import Derived.BigQuiet
/-! Pairs, reads and records in memory; what the document's Wrote and Touches tell, and the small tests. -/
namespace Go.Proofs.Ytlbcckdbpgofmaa
open Go.RowKit Go.Op

def Pair.enc (v : Pair) : List Value := [.string v.key, .string v.val, .bool v.dead]
def tPair : Ty Pair := Ty.flat 3 Pair.enc (fun _ => rfl) (fun x u hu => by simp [Pair.enc] at hu; rcases hu with rfl | rfl | rfl <;> rfl)
def tRead : Ty Rd := (Ty.bool.pair (Ty.str.pair (Ty.str.pair tPair.slice))).iso fun x => (x.scan, x.key, x.to, x.pairs)
def tRec : Ty Rec := ((Ty.int .i64).pair ((Ty.int .i64).pair (Ty.bool.pair (tRead.slice.pair tPair.slice)))).iso fun x => (x.sess, x.snap, x.strict, x.reads, x.writes)

theorem some_at {α : Type} {l : List α} {k : Nat} (h : k < l.length) : ∃ x, l[k]? = some x := ⟨l[k], List.getElem?_eq_getElem h⟩
section
variable {w : World} {ok : Nat → Prop} {A : Option Addr} {n cap : Nat}
theorem sl_pair {l : List Pair} (h : Sl tPair w ok (.slice A n cap) l) {i : Nat} {x : Pair} (hi : l[i]? = some x) :
    ∃ b off, A = some ⟨b, off, none⟩ ∧ b < w.heap.size ∧ w.cell? ⟨b, off + i * 3, none⟩ = some (.string x.key) ∧ w.cell? ⟨b, off + i * 3 + 1, none⟩ = some (.string x.val) ∧ w.cell? ⟨b, off + i * 3 + 2, none⟩ = some (.bool x.dead) := by
  obtain ⟨b, off, c, e, hb, hk, hc⟩ := h.at (by decide) hi
  obtain rfl : c = x.enc := hk
  exact ⟨b, off, e, World.block_lt_of_cell? w _ (hc 0 _ rfl), hc 0 _ rfl, hc 1 _ rfl, hc 2 _ rfl⟩
theorem read_form {x : Rd} {cs : List Value} (h : tRead.K w ok x cs) : ∃ P np cp, cs = [.bool x.scan, .string x.key, .string x.to, .slice P np cp] ∧ Sl tPair w ok (.slice P np cp) x.pairs := by
  obtain ⟨_, _, rfl, h1, _, _, rfl, h2, _, _, rfl, h3, v, rfl, h4⟩ := h
  obtain ⟨P, cp, rfl, -⟩ := h4.form
  exact ⟨P, _, cp, by rw [show _ = _ from h1, show _ = _ from h2, show _ = _ from h3]; rfl, h4⟩
theorem read_mk {x : Rd} {P : Option Addr} {np cp : Nat} (h : Sl tPair w ok (.slice P np cp) x.pairs) : tRead.K w ok x [.bool x.scan, .string x.key, .string x.to, .slice P np cp] :=
  ⟨[_], _, rfl, rfl, [_], _, rfl, rfl, [_], _, rfl, rfl, _, rfl, h⟩
theorem rec_form {x : Rec} {cs : List Value} (h : tRec.K w ok x cs) :
    ∃ R nr cr W nw cw, cs = [.int .i64 x.sess, .int .i64 x.snap, .bool x.strict, .slice R nr cr, .slice W nw cw] ∧ Sl tRead w ok (.slice R nr cr) x.reads ∧ Sl tPair w ok (.slice W nw cw) x.writes := by
  obtain ⟨_, _, rfl, h1, _, _, rfl, h2, _, _, rfl, h3, _, _, rfl, ⟨v, rfl, h4⟩, u, rfl, h5⟩ := h
  obtain ⟨R, cr, rfl, -⟩ := h4.form
  obtain ⟨W, cw, rfl, -⟩ := h5.form
  exact ⟨R, _, cr, W, _, cw, by rw [show _ = _ from h1, show _ = _ from h2, show _ = _ from h3]; rfl, h4, h5⟩
theorem rec_mk {x : Rec} {R W : Option Addr} {nr cr nw cw : Nat} (h : Sl tRead w ok (.slice R nr cr) x.reads) (k : Sl tPair w ok (.slice W nw cw) x.writes) :
    tRec.K w ok x [.int .i64 x.sess, .int .i64 x.snap, .bool x.strict, .slice R nr cr, .slice W nw cw] :=
  ⟨[_], _, rfl, rfl, [_], _, rfl, rfl, [_], _, rfl, rfl, [_], _, rfl, ⟨_, rfl, h⟩, _, rfl, k⟩
theorem sl_read {l : List Rd} (h : Sl tRead w ok (.slice A n cap) l) {i : Nat} {x : Rd} (hi : l[i]? = some x) :
    ∃ b off P np cp, A = some ⟨b, off, none⟩ ∧ b < w.heap.size ∧ w.cell? ⟨b, off + i * 4, none⟩ = some (.bool x.scan) ∧ w.cell? ⟨b, off + i * 4 + 1, none⟩ = some (.string x.key) ∧ w.cell? ⟨b, off + i * 4 + 2, none⟩ = some (.string x.to) ∧
      w.cell? ⟨b, off + i * 4 + 3, none⟩ = some (.slice P np cp) ∧ Sl tPair w ok (.slice P np cp) x.pairs := by
  obtain ⟨b, off, c, e, hb, hk, hc⟩ := h.at (by decide) hi
  obtain ⟨P, np, cp, rfl, hs⟩ := read_form hk
  exact ⟨b, off, P, np, cp, e, World.block_lt_of_cell? w _ (hc 0 _ rfl), hc 0 _ rfl, hc 1 _ rfl, hc 2 _ rfl, hc 3 _ rfl, hs⟩
theorem sl_rec {l : List Rec} (h : Sl tRec w ok (.slice A n cap) l) {i : Nat} {x : Rec} (hi : l[i]? = some x) :
    ∃ b off R nr cr W nw cw, A = some ⟨b, off, none⟩ ∧ b < w.heap.size ∧ w.cell? ⟨b, off + i * 5, none⟩ = some (.int .i64 x.sess) ∧ w.cell? ⟨b, off + i * 5 + 1, none⟩ = some (.int .i64 x.snap) ∧ w.cell? ⟨b, off + i * 5 + 2, none⟩ = some (.bool x.strict) ∧
      w.cell? ⟨b, off + i * 5 + 3, none⟩ = some (.slice R nr cr) ∧ w.cell? ⟨b, off + i * 5 + 4, none⟩ = some (.slice W nw cw) ∧ Sl tRead w ok (.slice R nr cr) x.reads ∧ Sl tPair w ok (.slice W nw cw) x.writes := by
  obtain ⟨b, off, c, e, hb, hk, hc⟩ := h.at (by decide) hi
  obtain ⟨R, nr, cr, W, nw, cw, rfl, h1, h2⟩ := rec_form hk
  exact ⟨b, off, R, nr, cr, W, nw, cw, e, World.block_lt_of_cell? w _ (hc 0 _ rfl), hc 0 _ rfl, hc 1 _ rfl, hc 2 _ rfl, hc 3 _ rfl, hc 4 _ rfl, h1, h2⟩
end

theorem any_step {α : Type} {p : α → Bool} {l : List α} {k : Nat} {x : α} {B : Bool} (hl : B = (l.drop k).any p) (hx : l[k]? = some x) : B = (p x || (l.drop (k + 1)).any p) := by
  obtain ⟨h1, rfl⟩ := List.getElem?_eq_some_iff.1 hx
  rw [hl, List.drop_eq_getElem_cons h1]; rfl
theorem any_end {α : Type} {p : α → Bool} {l : List α} {k : Nat} {B : Bool} (hl : B = (l.drop k).any p) (hk : l.length ≤ k) : false = B := by rw [hl, List.drop_of_length_le hk]; rfl

/-- The document's Wrote. -/
theorem rwrote_calls (s sn : Int) (st : Bool) (R : Option Addr) (nr cr : Nat) (W : Option Addr) (nw cw : Nat) (l : List Pair) (k : ByteArray) (w : World) (hl : Sl tPair w (fun _ => True) (.slice W nw cw) l) :
    Calls Try.prog 19 #[.agg #[.int .i64 s, .int .i64 sn, .bool st, .slice R nr cr, .slice W nw cw], .string k] w fun e w' => e = .returned (.bool (wrote l k)) ∧ Below w.heap.size w w' := by
  obtain ⟨hln, hcap, hm⟩ := hl.length
  have H := Lib.hid hl
  clear hl
  have hb0 : Below w.heap.size w (w.alloc (.cells #[.int .i64 s, .int .i64 sn, .bool st, .slice R nr cr, .slice W nw cw] 25)) := (Below.refl _ _).alloc (Nat.le_refl _) _
  have HB := Lib.hid hb0
  clear hb0
  go_enter Try.func19, Try.ntmps19
  go_wp2
  go_loopw [10] (fun i w' => ∃ (j : Nat), j ≤ nw ∧ i = .int .i64 j ∧ Hid (wrote l k = (l.drop j).any fun p => p.key.toList == k.toList) ∧ Below w.heap.size w w' ∧ w.heap.size < w'.heap.size)
    (fun i _ => nw - (intOf i).toNat)
  case atStart => exact ⟨0, by omega, rfl, rfl, HB.out, by simp⟩
  case round =>
    obtain ⟨j, hj, rfl, hg, hb, hz⟩ := hrel
    by_cases hlt : j < nw
    · obtain ⟨x, hx⟩ := some_at (show j < l.length by omega)
      obtain ⟨b, off, rfl, hbl, h0, h1, h2⟩ := sl_pair (H.out.below hb) hx
      have hs := Lib.hid (any_step hg.out hx)
      clear hx hg
      cases he : x.key.toList == k.toList
      · go_wp2
        go_roundw
        case rel => exact ⟨j + 1, by omega, by go_num, (show _ = _ by rw [hs.out, he]; rfl), hb.alloc (by omega) _, by simp; omega⟩
        case measure => simp [intOf]; omega
      · go_wp2
        go_ret
        exact ⟨ret_bool (by show _ = wrote l k; rw [hs.out, he]; rfl), hb.alloc (by omega) _⟩
    · go_wp2
      go_ret
      exact ⟨ret_bool (any_end hg.out (by omega)), hb⟩

/-- Wrote's test: over the box of the key. -/
theorem same_test (g : Nat) (k x : ByteArray) (w : World) (hg : w.cell? ⟨g, 0, none⟩ = some (.string k)) :
    Calls Try.prog 34 #[.string x, .pointer (some ⟨g, 0, none⟩)] w fun e w' => e = .returned (.bool (x.toList == k.toList)) ∧ Below w.heap.size w w' := by
  go_enter Try.func34, Try.ntmps34
  go_wp2
  go_ret
  exact ⟨rfl, Below.refl _ _⟩
/-- Touches' test: over the box of the read. -/
theorem range_test (g : Nat) (k t x : ByteArray) (w : World) (h1 : w.cell? ⟨g, 1, none⟩ = some (.string k)) (h2 : w.cell? ⟨g, 2, none⟩ = some (.string t)) :
    Calls Try.prog 35 #[.string x, .pointer (some ⟨g, 0, none⟩)] w fun e w' => e = .returned (.bool (!bytesLess x.toList k.toList && bytesLess x.toList t.toList)) ∧ Below w.heap.size w w' := by
  cases he : bytesLess x.toList k.toList <;>
  · go_enter Try.func35, Try.ntmps35
    go_wp2
    go_ret
    exact ⟨by simp, Below.refl _ _⟩
/-- rises' test. -/
theorem cmp_calls (p q : Pair) (w : World) :
    Calls Try.prog 43 #[.agg #[.string p.key, .string p.val, .bool p.dead], .agg #[.string q.key, .string q.val, .bool q.dead]] w fun e w' => e = .returned (.int .i64 (if bytesLess p.key.toList q.key.toList then -1 else 1)) ∧ Below w.heap.size w w' := by
  have hb : Below w.heap.size w ((w.alloc (.cells #[.string p.key, .string p.val, .bool p.dead] 37)).alloc (.cells #[.string q.key, .string q.val, .bool q.dead] 37)) := ((Below.refl _ _).alloc (Nat.le_refl _) _).alloc (by simp) _
  have HB := Lib.hid hb
  clear hb
  cases he : bytesLess p.key.toList q.key.toList <;>
  · go_enter Try.func43, Try.ntmps43
    go_wp2
    go_ret
    exact ⟨by simp, HB.out⟩
end Go.Proofs.Ytlbcckdbpgofmaa
