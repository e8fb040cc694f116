import Derived.Test.YtidfogcilegloaaW17
import Derived.Laws.Strings
import Derived.Deep.QuietTactic
import Derived.BigQuiet
import Derived.Deep.RegionHeld3
namespace Go.Proofs.Ytidfogcilegloaa.C
open Go.Op (bytesLess)
open Go.RowKit Go.Op

structure Rd where
  scan : Bool
  key : ByteArray
  to : ByteArray
  pairs : List Pair
structure Rec where
  sess : Int
  snap : Int
  strict : Bool
  reads : List Rd
  writes : List Pair

def hit (x : Rd) (p : Pair) : Bool := if x.scan then !bytesLess p.key.toList x.key.toList && bytesLess p.key.toList x.to.toList else p.key.toList == x.key.toList
def wrote (l : List Pair) (k : ByteArray) : Bool := l.any fun p => p.key.toList == k.toList
def touches (l : List Pair) (x : Rd) : Bool := l.any (hit x)
def idx {α : Type} (p : α → Bool) (l : List α) : Int := if l.any p then ((l.takeWhile fun x => !p x).length : Nat) else -1
def clash (ws : List Pair) (later : List Rec) : Int := idx (fun o => ws.any fun p => wrote o.writes p.key) later
def stale (rs : List Rd) (later : List Rec) : Int := idx (fun o => rs.any fun x => touches o.writes x) later
def mayNot (r : Rec) (later : List Rec) : Bool := decide (0 ≤ clash r.writes later) || (r.strict && decide (0 ≤ stale r.reads later))
/-- Do the keys rise? -/
def rises : List Pair → Bool
  | [] => true
  | [_] => true
  | a :: b :: l => !bytesLess b.key.toList a.key.toList && rises (b :: l)
theorem rises_tail {p : Pair} {l : List Pair} (h : rises (p :: l) = true) : rises l = true := by
  cases l with
  | nil => rfl
  | cons q l => simp only [rises, Bool.and_eq_true] at h; exact h.2
theorem rises_le : ∀ {l : List Pair} {p : Pair}, rises (p :: l) = true → ∀ q ∈ l, bytesLess q.key.toList p.key.toList = false
  | [], _, _, q, hq => by cases hq
  | r :: l, p, h, q, hq => by
    have h0 := h
    simp only [rises, Bool.and_eq_true, Bool.not_eq_true'] at h
    rcases List.mem_cons.1 hq with rfl | hq
    · exact h.1
    · exact bl_up h.1 (rises_le h.2 q hq)
theorem rises_mono {l : List Pair} (h : rises l = true) {i j : Nat} (hij : i ≤ j) {x y : Pair} (hi : l[i]? = some x) (hj : l[j]? = some y) : bytesLess y.key.toList x.key.toList = false := by
  induction l generalizing i j with
  | nil => simp at hi
  | cons p l ih =>
    cases i with
    | zero =>
      simp at hi; subst hi
      cases j with
      | zero => simp at hj; subst hj; exact bl_irrefl _
      | succ j => exact rises_le h y (List.mem_of_getElem? (by simpa using hj))
    | succ i =>
      cases j with
      | zero => omega
      | succ j => exact ih (i := i) (j := j) (rises_tail h) (by omega) (by simpa using hi) (by simpa using hj)
/-- The row of steps says whether keys rise. -/
theorem rises_iff {l : List Pair} : rises l = true ↔ ∀ i x y, l[i]? = some x → l[i + 1]? = some y → bytesLess y.key.toList x.key.toList = false := by
  induction l with
  | nil => exact ⟨fun _ i x y h => by simp at h, fun _ => rfl⟩
  | cons p l ih =>
    cases l with
    | nil => exact ⟨fun _ i x y h k => by simp at k, fun _ => rfl⟩
    | cons q l =>
      rw [rises, Bool.and_eq_true, ih]
      constructor
      · rintro ⟨h0, h1⟩ i x y hx hy
        cases i with
        | zero => simp at hx hy; subst hx hy; simpa using h0
        | succ i => exact h1 i x y (by simpa using hx) (by simpa using hy)
      · intro h
        exact ⟨by simpa using h 0 p q rfl rfl, fun i x y hx hy => h (i + 1) x y (by simpa using hx) (by simpa using hy)⟩
/-- What any at all does, the first that is not below a text does, where keys rise. -/
theorem any_first {l : List Pair} {q : ByteArray → Bool} {i : Nat} (hi : i ≤ l.length)
    (h1 : ∀ j x, j < i → l[j]? = some x → q x.key = false) (h2 : ∀ x, l[i]? = some x → q x.key = false → ∀ j y, i ≤ j → l[j]? = some y → q y.key = false) :
    (l.any fun p => q p.key) = (match l[i]? with | some x => q x.key | none => false) := by
  cases hx : l[i]? with
  | none =>
    rw [List.any_eq_false]
    intro p hp
    obtain ⟨j, hj, rfl⟩ := List.getElem_of_mem hp
    have := List.getElem?_eq_none_iff.1 hx
    simpa using h1 j _ (by omega) (List.getElem?_eq_getElem hj)
  | some x =>
    cases hq : q x.key with
    | true =>
      show (l.any fun p => q p.key) = q x.key
      rw [hq]
      exact List.any_eq_true.2 ⟨x, List.mem_of_getElem? hx, hq⟩
    | false =>
      show (l.any fun p => q p.key) = q x.key
      rw [hq, List.any_eq_false]
      intro p hp
      obtain ⟨j, hj, rfl⟩ := List.getElem_of_mem hp
      by_cases hji : j < i
      · simpa using h1 j _ hji (List.getElem?_eq_getElem hj)
      · simpa using h2 x hx hq j _ (by omega) (List.getElem?_eq_getElem hj)
theorem idx_nil {α : Type} (p : α → Bool) : idx p [] = -1 := rfl

def tRead : Ty Rd := (Ty.bool.pair (Ty.str.pair (Ty.str.pair tPair.slice))).iso fun x => (x.scan, x.key, x.to, x.pairs)
def tRec : Ty Rec := ((Ty.int .i64).pair ((Ty.int .i64).pair (Ty.bool.pair (tRead.slice.pair tPair.slice)))).iso fun x => (x.sess, x.snap, x.strict, x.reads, x.writes)

section
variable {w : World} {ok : Nat → Prop} {A : Option Addr} {n cap : Nat}
theorem sl_pair {l : List Pair} (h : Sl tPair w ok (.slice A n cap) l) {i : Nat} {x : Pair} (hi : l[i]? = some x) :
    ∃ b off, A = some ⟨b, off, none⟩ ∧ b < w.heap.size ∧ w.cell? ⟨b, off + i * 3, none⟩ = some (.string x.key) ∧ w.cell? ⟨b, off + i * 3 + 1, none⟩ = some (.string x.val) ∧ w.cell? ⟨b, off + i * 3 + 2, none⟩ = some (.bool x.dead) := by
  obtain ⟨b, off, c, e, hb, hk, hc⟩ := h.at (by decide) hi
  obtain rfl : c = x.enc := hk
  exact ⟨b, off, e, World.block_lt_of_cell? w _ (hc 0 _ rfl), hc 0 _ rfl, hc 1 _ rfl, hc 2 _ rfl⟩
theorem read_form {x : Rd} {cs : List Value} (h : tRead.K w ok x cs) : ∃ P np cp, cs = [.bool x.scan, .string x.key, .string x.to, .slice P np cp] ∧ Sl tPair w ok (.slice P np cp) x.pairs := by
  obtain ⟨_, _, rfl, h1, _, _, rfl, h2, _, _, rfl, h3, v, rfl, h4⟩ := h
  obtain ⟨P, cp, rfl, -⟩ := h4.form
  exact ⟨P, _, cp, by rw [show _ = _ from h1, show _ = _ from h2, show _ = _ from h3]; rfl, h4⟩
theorem read_mk {x : Rd} {P : Option Addr} {np cp : Nat} (h : Sl tPair w ok (.slice P np cp) x.pairs) : tRead.K w ok x [.bool x.scan, .string x.key, .string x.to, .slice P np cp] :=
  ⟨[_], _, rfl, rfl, [_], _, rfl, rfl, [_], _, rfl, rfl, _, rfl, h⟩
theorem rec_form {x : Rec} {cs : List Value} (h : tRec.K w ok x cs) :
    ∃ R nr cr W nw cw, cs = [.int .i64 x.sess, .int .i64 x.snap, .bool x.strict, .slice R nr cr, .slice W nw cw] ∧ Sl tRead w ok (.slice R nr cr) x.reads ∧ Sl tPair w ok (.slice W nw cw) x.writes := by
  obtain ⟨_, _, rfl, h1, _, _, rfl, h2, _, _, rfl, h3, _, _, rfl, ⟨v, rfl, h4⟩, u, rfl, h5⟩ := h
  obtain ⟨R, cr, rfl, -⟩ := h4.form
  obtain ⟨W, cw, rfl, -⟩ := h5.form
  exact ⟨R, _, cr, W, _, cw, by rw [show _ = _ from h1, show _ = _ from h2, show _ = _ from h3]; rfl, h4, h5⟩
theorem rec_mk {x : Rec} {R W : Option Addr} {nr cr nw cw : Nat} (h : Sl tRead w ok (.slice R nr cr) x.reads) (k : Sl tPair w ok (.slice W nw cw) x.writes) :
    tRec.K w ok x [.int .i64 x.sess, .int .i64 x.snap, .bool x.strict, .slice R nr cr, .slice W nw cw] :=
  ⟨[_], _, rfl, rfl, [_], _, rfl, rfl, [_], _, rfl, rfl, [_], _, rfl, ⟨_, rfl, h⟩, _, rfl, k⟩
theorem sl_read {l : List Rd} (h : Sl tRead w ok (.slice A n cap) l) {i : Nat} {x : Rd} (hi : l[i]? = some x) :
    ∃ b off P np cp, A = some ⟨b, off, none⟩ ∧ b < w.heap.size ∧ w.cell? ⟨b, off + i * 4, none⟩ = some (.bool x.scan) ∧ w.cell? ⟨b, off + i * 4 + 1, none⟩ = some (.string x.key) ∧ w.cell? ⟨b, off + i * 4 + 2, none⟩ = some (.string x.to) ∧
      w.cell? ⟨b, off + i * 4 + 3, none⟩ = some (.slice P np cp) ∧ Sl tPair w ok (.slice P np cp) x.pairs := by
  obtain ⟨b, off, c, e, hb, hk, hc⟩ := h.at (by decide) hi
  obtain ⟨P, np, cp, rfl, hs⟩ := read_form hk
  exact ⟨b, off, P, np, cp, e, World.block_lt_of_cell? w _ (hc 0 _ rfl), hc 0 _ rfl, hc 1 _ rfl, hc 2 _ rfl, hc 3 _ rfl, hs⟩
theorem sl_rec {l : List Rec} (h : Sl tRec w ok (.slice A n cap) l) {i : Nat} {x : Rec} (hi : l[i]? = some x) :
    ∃ b off R nr cr W nw cw, A = some ⟨b, off, none⟩ ∧ b < w.heap.size ∧ w.cell? ⟨b, off + i * 5, none⟩ = some (.int .i64 x.sess) ∧ w.cell? ⟨b, off + i * 5 + 1, none⟩ = some (.int .i64 x.snap) ∧ w.cell? ⟨b, off + i * 5 + 2, none⟩ = some (.bool x.strict) ∧
      w.cell? ⟨b, off + i * 5 + 3, none⟩ = some (.slice R nr cr) ∧ w.cell? ⟨b, off + i * 5 + 4, none⟩ = some (.slice W nw cw) ∧ Sl tRead w ok (.slice R nr cr) x.reads ∧ Sl tPair w ok (.slice W nw cw) x.writes := by
  obtain ⟨b, off, c, e, hb, hk, hc⟩ := h.at (by decide) hi
  obtain ⟨R, nr, cr, W, nw, cw, rfl, h1, h2⟩ := rec_form hk
  exact ⟨b, off, R, nr, cr, W, nw, cw, e, World.block_lt_of_cell? w _ (hc 0 _ rfl), hc 0 _ rfl, hc 1 _ rfl, hc 2 _ rfl, hc 3 _ rfl, hc 4 _ rfl, h1, h2⟩
end

theorem any_step {α : Type} {p : α → Bool} {l : List α} {k : Nat} {x : α} {B : Bool} (hl : B = (l.drop k).any p) (hx : l[k]? = some x) : B = (p x || (l.drop (k + 1)).any p) := by
  obtain ⟨h1, rfl⟩ := List.getElem?_eq_some_iff.1 hx
  rw [hl, List.drop_eq_getElem_cons h1]; rfl
theorem any_end {α : Type} {p : α → Bool} {l : List α} {k : Nat} {B : Bool} (hl : B = (l.drop k).any p) (hk : l.length ≤ k) : false = B := by rw [hl, List.drop_of_length_le hk]; rfl

theorem blk_new {w : World} {cs : Array Value} {e g : Nat} (h : g = w.heap.size) : Blk (w.alloc (.cells cs e)) g cs e := by rw [h]; exact Blk.new w cs e

/-- One pair in a block. -/
theorem one_pair {w : World} {g : Nat} {p : Pair} (h : Blk w g #[.string p.key, .string p.val, .bool p.dead] 68) : Sl tPair w (fun _ => True) (.slice (some ⟨g, 0, none⟩) 1 1) [p] :=
  ⟨_, 1, [.string p.key, .string p.val, .bool p.dead], rfl, Nat.le_refl _, ⟨by omega, fun h => by cases h⟩, Cells.one (t := tPair) (x := p) rfl, .inr ⟨g, 0, rfl, trivial, fun j u hj => by rw [h.cell (0 + j)]; simpa using hj⟩⟩
theorem one_rec {w : World} {g h : Nat} {p : Pair} (hg : Blk w g #[.string p.key, .string p.val, .bool p.dead] 68) (hh : Blk w h #[.int .i64 0, .int .i64 0, .bool false, .slice none 0 0, .slice (some ⟨g, 0, none⟩) 1 1] 34) :
    Sl tRec w (fun _ => True) (.slice (some ⟨h, 0, none⟩) 1 1) [⟨0, 0, false, [], [p]⟩] :=
  ⟨_, 1, [.int .i64 0, .int .i64 0, .bool false, .slice none 0 0, .slice (some ⟨g, 0, none⟩) 1 1], rfl, Nat.le_refl _, ⟨by omega, fun h => by cases h⟩,
    Cells.one (t := tRec) (x := ⟨0, 0, false, [], [p]⟩) (rec_mk (x := ⟨0, 0, false, [], [p]⟩) (Sl.nil _ _ _) (one_pair hg)), .inr ⟨h, 0, rfl, trivial, fun j u hj => by rw [hh.cell (0 + j)]; simpa using hj⟩⟩
theorem one_read {w : World} {g : Nat} {k t : ByteArray} (h : Blk w g #[.bool false, .string k, .string t, .slice none 0 0] 63) : Sl tRead w (fun _ => True) (.slice (some ⟨g, 0, none⟩) 1 1) [⟨false, k, t, []⟩] :=
  ⟨_, 1, [.bool false, .string k, .string t, .slice none 0 0], rfl, Nat.le_refl _, ⟨by omega, fun h => by cases h⟩, Cells.one (t := tRead) (x := ⟨false, k, t, []⟩) (read_mk (x := ⟨false, k, t, []⟩) (Sl.nil _ _ _)), .inr ⟨g, 0, rfl, trivial, fun j u hj => by rw [h.cell (0 + j)]; simpa using hj⟩⟩
/-- What stays as the examples are made. -/
def LS (w W : World) : Prop := W.cell? ⟨w.heap.size + 1, 0, none⟩ = some (.int .i64 0) ∧ W.cell? ⟨w.heap.size + 1, 1, none⟩ = some (.int .i64 0) ∧ W.cell? ⟨w.heap.size + 1, 2, none⟩ = some (.bool true) ∧ W.cell? ⟨w.heap.size + 1, 3, none⟩ = some (.slice (some ⟨w.heap.size, 0, none⟩) 1 1) ∧ W.cell? ⟨w.heap.size + 1, 4, none⟩ = some (.slice none 0 0) ∧ W.cell? ⟨w.heap.size + 1 + 1, 0, none⟩ = some (.int .i64 0) ∧ W.cell? ⟨w.heap.size + 1 + 1, 1, none⟩ = some (.int .i64 0) ∧ W.cell? ⟨w.heap.size + 1 + 1, 2, none⟩ = some (.bool false) ∧ W.cell? ⟨w.heap.size + 1 + 1, 3, none⟩ = some (.slice (some ⟨w.heap.size, 0, none⟩) 1 1) ∧ W.cell? ⟨w.heap.size + 1 + 1, 4, none⟩ = some (.slice none 0 0) ∧ Hid (Blk W w.heap.size #[.bool false, .string ⟨#[97]⟩, .string ⟨#[]⟩, .slice none 0 0] 63) ∧ Hid (Below w.heap.size w W) ∧ Hid (w.heap.size + 3 ≤ W.heap.size)
theorem LS.below {w W W' : World} (h : LS w W) (hb : Below W.heap.size W W') : LS w W' := by
  obtain ⟨a0, a1, a2, a3, a4, b0, b1, b2, b3, b4, hR, hB, hz⟩ := h
  have hz' := hz.out
  obtain ⟨hc, -⟩ := bcell hb
  refine ⟨?_, ?_, ?_, ?_, ?_, ?_, ?_, ?_, ?_, ?_, hR.out.below hb hR.out.lt, hB.out.trans (hb.mono hB.out.size), Nat.le_trans hz.out hb.size⟩ <;> (rw [hc _ _ (by omega)]; assumption)
theorem LS.alloc {w W : World} (h : LS w W) (o : Obj) : LS w (W.alloc o) := h.below ((Below.refl _ _).alloc (Nat.le_refl _) o)
theorem LS.read {w W : World} (h : LS w W) : Blk W w.heap.size #[.bool false, .string ⟨#[97]⟩, .string ⟨#[]⟩, .slice none 0 0] 63 := h.2.2.2.2.2.2.2.2.2.2.1.out
theorem LS.after {w W : World} (h : LS w W) : Below w.heap.size w W := h.2.2.2.2.2.2.2.2.2.2.2.1.out
theorem LS.drew {w W : World} (h : LS w W) : LS w W.drew := h.below (Below.refl _ _).drew

end Go.Proofs.Ytidfogcilegloaa.C
