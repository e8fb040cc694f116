import Derived.Test.YtlbcckdbpgofmaaW8
import Derived.Deep.RegionHeld3
/-! A record that wrote a key; the document's examples. -/
namespace Go.Proofs.Ytlbcckdbpgofmaa
open Go.RowKit Go.Op

theorem made_calls (k : ByteArray) (w : World) :
    Calls Try.prog 25 #[.string k] w fun e w' => e = .returned (.agg #[.int .i64 0, .int .i64 0, .bool false, .slice none 0 0, .slice (some ⟨w.heap.size + 1, 0, none⟩) 1 1]) ∧
      w' = (w.alloc (.cells #[.int .i64 0, .int .i64 0, .bool false, .slice none 0 0, .slice (some ⟨w.heap.size + 1, 0, none⟩) 1 1] 25)).alloc (.cells #[.string k, .string ⟨#[]⟩, .bool false] 37) := by
  go_enter Try.func25, Try.ntmps25
  go_wp2
  refine bodyPost_ret (v := .agg #[.int .i64 0, .int .i64 0, .bool false, .slice none 0 0, .slice (some ⟨w.heap.size + 1, 0, none⟩) 1 1]) ?_ rfl ⟨rfl, rfl⟩
  simp [results, Try.results25, go_sem]
theorem blk_drew {w : World} {cs : Array Value} {e g : Nat} (h : Blk w g cs e) : Blk w.drew g cs e := h
theorem blk_new {w : World} {cs : Array Value} {e g : Nat} (h : g = w.heap.size) : Blk (w.alloc (.cells cs e)) g cs e := by rw [h]; exact Blk.new w cs e

/-- One pair in a block. -/
theorem one_pair {w : World} {g : Nat} {p : Pair} (h : Blk w g #[.string p.key, .string p.val, .bool p.dead] 37) : Sl tPair w (fun _ => True) (.slice (some ⟨g, 0, none⟩) 1 1) [p] :=
  ⟨_, 1, [.string p.key, .string p.val, .bool p.dead], rfl, Nat.le_refl _, ⟨by omega, fun h => by cases h⟩, Cells.one (t := tPair) (x := p) rfl, .inr ⟨g, 0, rfl, trivial, fun j u hj => by rw [h.cell (0 + j)]; simpa using hj⟩⟩
theorem one_rec {w : World} {g h : Nat} {p : Pair} (hg : Blk w g #[.string p.key, .string p.val, .bool p.dead] 37) (hh : Blk w h #[.int .i64 0, .int .i64 0, .bool false, .slice none 0 0, .slice (some ⟨g, 0, none⟩) 1 1] 25) :
    Sl tRec w (fun _ => True) (.slice (some ⟨h, 0, none⟩) 1 1) [⟨0, 0, false, [], [p]⟩] :=
  ⟨_, 1, [.int .i64 0, .int .i64 0, .bool false, .slice none 0 0, .slice (some ⟨g, 0, none⟩) 1 1], rfl, Nat.le_refl _, ⟨by omega, fun h => by cases h⟩,
    Cells.one (t := tRec) (x := ⟨0, 0, false, [], [p]⟩) (rec_mk (x := ⟨0, 0, false, [], [p]⟩) (Sl.nil _ _ _) (one_pair hg)), .inr ⟨h, 0, rfl, trivial, fun j u hj => by rw [hh.cell (0 + j)]; simpa using hj⟩⟩
theorem one_read {w : World} {g : Nat} {k t : ByteArray} (h : Blk w g #[.bool false, .string k, .string t, .slice none 0 0] 41) : Sl tRead w (fun _ => True) (.slice (some ⟨g, 0, none⟩) 1 1) [⟨false, k, t, []⟩] :=
  ⟨_, 1, [.bool false, .string k, .string t, .slice none 0 0], rfl, Nat.le_refl _, ⟨by omega, fun h => by cases h⟩, Cells.one (t := tRead) (x := ⟨false, k, t, []⟩) (read_mk (x := ⟨false, k, t, []⟩) (Sl.nil _ _ _)), .inr ⟨g, 0, rfl, trivial, fun j u hj => by rw [h.cell (0 + j)]; simpa using hj⟩⟩
theorem small_one (k : ByteArray) : Small [⟨0, 0, false, [], [⟨k, ⟨#[]⟩, false⟩]⟩] := by
  intro o ho
  simp at ho
  subst ho
  exact ⟨by simp, by simp⟩

theorem clash_lives (w : World) (k : ByteArray) (g f h : Nat) (hg : Blk w g #[.string k, .string ⟨#[]⟩, .bool false] 37) (hf : Blk w f #[.string k, .string ⟨#[]⟩, .bool false] 37)
    (hh : Blk w h #[.int .i64 0, .int .i64 0, .bool false, .slice none 0 0, .slice (some ⟨f, 0, none⟩) 1 1] 25) :
    Calls Try.prog 11 #[.agg #[.int .i64 0, .int .i64 0, .bool false, .slice none 0 0, .slice (some ⟨g, 0, none⟩) 1 1], .slice (some ⟨h, 0, none⟩) 1 1] w fun e w' => e = .returned (.int .i64 0) ∧ Below w.heap.size w w' := by
  have := clash_calls 0 0 false none 0 0 (some ⟨g, 0, none⟩) 1 1 [⟨k, ⟨#[]⟩, false⟩] [⟨0, 0, false, [], [⟨k, ⟨#[]⟩, false⟩]⟩] (some ⟨h, 0, none⟩) 1 1 w (one_pair (p := ⟨k, ⟨#[]⟩, false⟩) hg) (one_rec (p := ⟨k, ⟨#[]⟩, false⟩) hf hh) (small_one k)
  rwa [show clash [⟨k, ⟨#[]⟩, false⟩] [⟨0, 0, false, [], [⟨k, ⟨#[]⟩, false⟩]⟩] = 0 by simp [clash, idx, wrote]] at this
theorem may_lives (w : World) (k : ByteArray) (st : Bool) (g f h : Nat) (hg : Blk w g #[.bool false, .string k, .string ⟨#[]⟩, .slice none 0 0] 41) (hf : Blk w f #[.string k, .string ⟨#[]⟩, .bool false] 37)
    (hh : Blk w h #[.int .i64 0, .int .i64 0, .bool false, .slice none 0 0, .slice (some ⟨f, 0, none⟩) 1 1] 25) :
    Calls Try.prog 15 #[.agg #[.int .i64 0, .int .i64 0, .bool st, .slice (some ⟨g, 0, none⟩) 1 1, .slice none 0 0], .slice (some ⟨h, 0, none⟩) 1 1] w fun e w' => e = .returned (.int .i64 (if st then 10 else 0)) ∧ Below w.heap.size w w' := by
  have := may_calls ⟨0, 0, st, [⟨false, k, ⟨#[]⟩, []⟩], []⟩ (some ⟨g, 0, none⟩) 1 1 none 0 0 [⟨0, 0, false, [], [⟨k, ⟨#[]⟩, false⟩]⟩] (some ⟨h, 0, none⟩) 1 1 w (one_read hg) (Sl.nil _ _ _) (one_rec (p := ⟨k, ⟨#[]⟩, false⟩) hf hh) (small_one k)
  rwa [show mayV ⟨0, 0, st, [⟨false, k, ⟨#[]⟩, []⟩], []⟩ [⟨0, 0, false, [], [⟨k, ⟨#[]⟩, false⟩]⟩] = (if st then 10 else 0) by cases st <;> simp [mayV, mayNot, clash, stale, idx, wrote, touches, hit]] at this

theorem clash_at (w0 : World) (k : ByteArray) :
    Calls Try.prog 11 #[.agg #[.int .i64 0, .int .i64 0, .bool false, .slice none 0 0, .slice (some ⟨w0.heap.size + 1, 0, none⟩) 1 1], .slice (some ⟨w0.heap.size + 1 + 1 + 1 + 1, 0, none⟩) 1 1] ((((((w0.alloc (.cells #[.int .i64 0, .int .i64 0, .bool false, .slice none 0 0, .slice (some ⟨w0.heap.size + 1, 0, none⟩) 1 1] 25)).alloc (.cells #[.string k, .string ⟨#[]⟩, .bool false] 37)).alloc (.cells #[.int .i64 0, .int .i64 0, .bool false, .slice none 0 0, .slice (some ⟨w0.heap.size + 1 + 1 + 1, 0, none⟩) 1 1] 25)).alloc (.cells #[.string k, .string ⟨#[]⟩, .bool false] 37)).alloc (.cells #[.int .i64 0, .int .i64 0, .bool false, .slice none 0 0, .slice (some ⟨w0.heap.size + 1 + 1 + 1, 0, none⟩) 1 1] 25)).drew) fun e w' => e = .returned (.int .i64 0) ∧ Below w0.heap.size w0 w' ∧ w0.heap.size + 5 ≤ w'.heap.size := by
  have hb : Below w0.heap.size w0 ((((((w0.alloc (.cells #[.int .i64 0, .int .i64 0, .bool false, .slice none 0 0, .slice (some ⟨w0.heap.size + 1, 0, none⟩) 1 1] 25)).alloc (.cells #[.string k, .string ⟨#[]⟩, .bool false] 37)).alloc (.cells #[.int .i64 0, .int .i64 0, .bool false, .slice none 0 0, .slice (some ⟨w0.heap.size + 1 + 1 + 1, 0, none⟩) 1 1] 25)).alloc (.cells #[.string k, .string ⟨#[]⟩, .bool false] 37)).alloc (.cells #[.int .i64 0, .int .i64 0, .bool false, .slice none 0 0, .slice (some ⟨w0.heap.size + 1 + 1 + 1, 0, none⟩) 1 1] 25)).drew) := by
    refine Below.drew ?_
    repeat (first | exact Below.refl _ _ | refine Below.alloc ?_ (by simp <;> omega) _)
  refine (clash_lives _ k (w0.heap.size + 1) (w0.heap.size + 1 + 1 + 1) (w0.heap.size + 1 + 1 + 1 + 1) ?_ ?_ ?_).mono ?_
  · exact blk_drew ((((blk_new (by simp)).alloc _).alloc _).alloc _)
  · exact blk_drew ((blk_new (by simp)).alloc _)
  · exact blk_drew (blk_new (by simp))
  · rintro e w' ⟨rfl, hb'⟩
    exact ⟨rfl, hb.trans (hb'.mono hb.size), by have := hb'.size; simp at this; omega⟩
theorem may_at (w0 : World) (k : ByteArray) (st : Bool) (g : Nat) (hg : Blk w0 g #[.bool false, .string k, .string ⟨#[]⟩, .slice none 0 0] 41) :
    Calls Try.prog 15 #[.agg #[.int .i64 0, .int .i64 0, .bool st, .slice (some ⟨g, 0, none⟩) 1 1, .slice none 0 0], .slice (some ⟨w0.heap.size + 1 + 1, 0, none⟩) 1 1] ((((w0.alloc (.cells #[.int .i64 0, .int .i64 0, .bool false, .slice none 0 0, .slice (some ⟨w0.heap.size + 1, 0, none⟩) 1 1] 25)).alloc (.cells #[.string k, .string ⟨#[]⟩, .bool false] 37)).alloc (.cells #[.int .i64 0, .int .i64 0, .bool false, .slice none 0 0, .slice (some ⟨w0.heap.size + 1, 0, none⟩) 1 1] 25))) fun e w' => e = .returned (.int .i64 (if st then 10 else 0)) ∧ Below w0.heap.size w0 w' ∧ w0.heap.size + 3 ≤ w'.heap.size := by
  have hb : Below w0.heap.size w0 ((((w0.alloc (.cells #[.int .i64 0, .int .i64 0, .bool false, .slice none 0 0, .slice (some ⟨w0.heap.size + 1, 0, none⟩) 1 1] 25)).alloc (.cells #[.string k, .string ⟨#[]⟩, .bool false] 37)).alloc (.cells #[.int .i64 0, .int .i64 0, .bool false, .slice none 0 0, .slice (some ⟨w0.heap.size + 1, 0, none⟩) 1 1] 25))) := by
    repeat (first | exact Below.refl _ _ | refine Below.alloc ?_ (by simp <;> omega) _)
  refine (may_lives _ k st g (w0.heap.size + 1) (w0.heap.size + 1 + 1) ?_ ?_ ?_).mono ?_
  · exact ((hg.alloc _).alloc _).alloc _
  · exact (blk_new (by simp)).alloc _
  · exact blk_new (by simp)
  · rintro e w' ⟨rfl, hb'⟩
    exact ⟨rfl, hb.trans (hb'.mono hb.size), by have := hb'.size; simp at this; omega⟩
theorem may_at_t (w0 : World) (k : ByteArray) (g : Nat) (hg : Blk w0 g #[.bool false, .string k, .string ⟨#[]⟩, .slice none 0 0] 41) :
    Calls Try.prog 15 #[.agg #[.int .i64 0, .int .i64 0, .bool true, .slice (some ⟨g, 0, none⟩) 1 1, .slice none 0 0], .slice (some ⟨w0.heap.size + 1 + 1, 0, none⟩) 1 1] ((((w0.alloc (.cells #[.int .i64 0, .int .i64 0, .bool false, .slice none 0 0, .slice (some ⟨w0.heap.size + 1, 0, none⟩) 1 1] 25)).alloc (.cells #[.string k, .string ⟨#[]⟩, .bool false] 37)).alloc (.cells #[.int .i64 0, .int .i64 0, .bool false, .slice none 0 0, .slice (some ⟨w0.heap.size + 1, 0, none⟩) 1 1] 25))) fun e w' => e = .returned (.int .i64 10) ∧ Below w0.heap.size w0 w' ∧ w0.heap.size + 3 ≤ w'.heap.size := may_at w0 k true g hg
theorem may_at_f (w0 : World) (k : ByteArray) (g : Nat) (hg : Blk w0 g #[.bool false, .string k, .string ⟨#[]⟩, .slice none 0 0] 41) :
    Calls Try.prog 15 #[.agg #[.int .i64 0, .int .i64 0, .bool false, .slice (some ⟨g, 0, none⟩) 1 1, .slice none 0 0], .slice (some ⟨w0.heap.size + 1 + 1, 0, none⟩) 1 1] ((((w0.alloc (.cells #[.int .i64 0, .int .i64 0, .bool false, .slice none 0 0, .slice (some ⟨w0.heap.size + 1, 0, none⟩) 1 1] 25)).alloc (.cells #[.string k, .string ⟨#[]⟩, .bool false] 37)).alloc (.cells #[.int .i64 0, .int .i64 0, .bool false, .slice none 0 0, .slice (some ⟨w0.heap.size + 1, 0, none⟩) 1 1] 25))) fun e w' => e = .returned (.int .i64 0) ∧ Below w0.heap.size w0 w' ∧ w0.heap.size + 3 ≤ w'.heap.size := may_at w0 k false g hg

/-- What stays as the examples are made. -/
def LS (w W : World) : Prop := W.cell? ⟨w.heap.size + 1, 0, none⟩ = some (.int .i64 0) ∧ W.cell? ⟨w.heap.size + 1, 1, none⟩ = some (.int .i64 0) ∧ W.cell? ⟨w.heap.size + 1, 2, none⟩ = some (.bool true) ∧ W.cell? ⟨w.heap.size + 1, 3, none⟩ = some (.slice (some ⟨w.heap.size, 0, none⟩) 1 1) ∧ W.cell? ⟨w.heap.size + 1, 4, none⟩ = some (.slice none 0 0) ∧ W.cell? ⟨w.heap.size + 1 + 1, 0, none⟩ = some (.int .i64 0) ∧ W.cell? ⟨w.heap.size + 1 + 1, 1, none⟩ = some (.int .i64 0) ∧ W.cell? ⟨w.heap.size + 1 + 1, 2, none⟩ = some (.bool false) ∧ W.cell? ⟨w.heap.size + 1 + 1, 3, none⟩ = some (.slice (some ⟨w.heap.size, 0, none⟩) 1 1) ∧ W.cell? ⟨w.heap.size + 1 + 1, 4, none⟩ = some (.slice none 0 0) ∧ Hid (Blk W w.heap.size #[.bool false, .string ⟨#[97]⟩, .string ⟨#[]⟩, .slice none 0 0] 41) ∧ Hid (Below w.heap.size w W) ∧ Hid (w.heap.size + 3 ≤ W.heap.size)
theorem LS.below {w W W' : World} (h : LS w W) (hb : Below W.heap.size W W') : LS w W' := by
  obtain ⟨a0, a1, a2, a3, a4, b0, b1, b2, b3, b4, hR, hB, hz⟩ := h
  have hz' := hz.out
  obtain ⟨hc, -⟩ := bcell hb
  refine ⟨?_, ?_, ?_, ?_, ?_, ?_, ?_, ?_, ?_, ?_, hR.out.below hb hR.out.lt, hB.out.trans (hb.mono hB.out.size), Nat.le_trans hz.out hb.size⟩ <;> (rw [hc _ _ (by omega)]; assumption)
theorem LS.alloc {w W : World} (h : LS w W) (o : Obj) : LS w (W.alloc o) := h.below ((Below.refl _ _).alloc (Nat.le_refl _) o)
theorem LS.read {w W : World} (h : LS w W) : Blk W w.heap.size #[.bool false, .string ⟨#[97]⟩, .string ⟨#[]⟩, .slice none 0 0] 41 := h.2.2.2.2.2.2.2.2.2.2.1.out
theorem LS.after {w W : World} (h : LS w W) : Below w.heap.size w W := h.2.2.2.2.2.2.2.2.2.2.2.1.out
theorem LS.drew {w W : World} (h : LS w W) : LS w W.drew := h.below (Below.refl _ _).drew

set_option maxHeartbeats 4000000 in
theorem lives_calls (w : World) : Calls Try.prog 10 #[] w fun e w' => e = .returned (.bool true) ∧ Below w.heap.size w w' := by
  have hR : Blk (((w.alloc (.cells #[.bool false, .string ⟨#[97]⟩, .string ⟨#[]⟩, .slice none 0 0] 41)).alloc (.cells #[.int .i64 0, .int .i64 0, .bool true, .slice (some ⟨w.heap.size, 0, none⟩) 1 1, .slice none 0 0] 25)).alloc (.cells #[.int .i64 0, .int .i64 0, .bool false, .slice (some ⟨w.heap.size, 0, none⟩) 1 1, .slice none 0 0] 25)) w.heap.size #[.bool false, .string ⟨#[97]⟩, .string ⟨#[]⟩, .slice none 0 0] 41 := ((Blk.new w _ 41).alloc _).alloc _
  have h1 : Blk (((w.alloc (.cells #[.bool false, .string ⟨#[97]⟩, .string ⟨#[]⟩, .slice none 0 0] 41)).alloc (.cells #[.int .i64 0, .int .i64 0, .bool true, .slice (some ⟨w.heap.size, 0, none⟩) 1 1, .slice none 0 0] 25)).alloc (.cells #[.int .i64 0, .int .i64 0, .bool false, .slice (some ⟨w.heap.size, 0, none⟩) 1 1, .slice none 0 0] 25)) (w.heap.size + 1) #[.int .i64 0, .int .i64 0, .bool true, .slice (some ⟨w.heap.size, 0, none⟩) 1 1, .slice none 0 0] 25 := (blk_new (by simp)).alloc _
  have h2 : Blk (((w.alloc (.cells #[.bool false, .string ⟨#[97]⟩, .string ⟨#[]⟩, .slice none 0 0] 41)).alloc (.cells #[.int .i64 0, .int .i64 0, .bool true, .slice (some ⟨w.heap.size, 0, none⟩) 1 1, .slice none 0 0] 25)).alloc (.cells #[.int .i64 0, .int .i64 0, .bool false, .slice (some ⟨w.heap.size, 0, none⟩) 1 1, .slice none 0 0] 25)) (w.heap.size + 1 + 1) #[.int .i64 0, .int .i64 0, .bool false, .slice (some ⟨w.heap.size, 0, none⟩) 1 1, .slice none 0 0] 25 := blk_new (by simp)
  have hz : (((w.alloc (.cells #[.bool false, .string ⟨#[97]⟩, .string ⟨#[]⟩, .slice none 0 0] 41)).alloc (.cells #[.int .i64 0, .int .i64 0, .bool true, .slice (some ⟨w.heap.size, 0, none⟩) 1 1, .slice none 0 0] 25)).alloc (.cells #[.int .i64 0, .int .i64 0, .bool false, .slice (some ⟨w.heap.size, 0, none⟩) 1 1, .slice none 0 0] 25)).heap.size = w.heap.size + 3 := by simp
  have hb : Below w.heap.size w (((w.alloc (.cells #[.bool false, .string ⟨#[97]⟩, .string ⟨#[]⟩, .slice none 0 0] 41)).alloc (.cells #[.int .i64 0, .int .i64 0, .bool true, .slice (some ⟨w.heap.size, 0, none⟩) 1 1, .slice none 0 0] 25)).alloc (.cells #[.int .i64 0, .int .i64 0, .bool false, .slice (some ⟨w.heap.size, 0, none⟩) 1 1, .slice none 0 0] 25)) := (((Below.refl _ _).alloc (Nat.le_refl _) _).alloc (by simp) _).alloc (by simp; omega) _
  have HQ := Lib.hid hR
  have H1 := Lib.hid h1
  have H2 := Lib.hid h2
  have HZ := Lib.hid hz
  have HY := Lib.hid hb
  clear hR h1 h2 hz hb
  go_enter Try.func10, Try.ntmps10
  go_wp2
  generalize ((w.alloc (.cells #[.bool false, .string ⟨#[97]⟩, .string ⟨#[]⟩, .slice none 0 0] 41)).alloc (.cells #[.int .i64 0, .int .i64 0, .bool true, .slice (some ⟨w.heap.size, 0, none⟩) 1 1, .slice none 0 0] 25)).alloc (.cells #[.int .i64 0, .int .i64 0, .bool false, .slice (some ⟨w.heap.size, 0, none⟩) 1 1, .slice none 0 0] 25) = w0 at *
  obtain ⟨a0, a1, a2, a3, a4⟩ := rec_cells _ _ _ _ _ _ _ _ _ H1.out
  obtain ⟨b0, b1, b2, b3, b4⟩ := rec_cells _ _ _ _ _ _ _ _ _ H2.out
  have hS : LS w w0 := ⟨a0, a1, a2, a3, a4, b0, b1, b2, b3, b4, HQ.out, HY.out, Nat.le_of_eq HZ.out.symm⟩
  clear a0 a1 a2 a3 a4 b0 b1 b2 b3 b4 HQ HY H1 H2 HZ
  go_region_held3 (fun W => W.cell? ⟨w.heap.size + 1, 0, none⟩ = some (.int .i64 0) ∧ W.cell? ⟨w.heap.size + 1, 1, none⟩ = some (.int .i64 0) ∧ W.cell? ⟨w.heap.size + 1, 2, none⟩ = some (.bool true) ∧ W.cell? ⟨w.heap.size + 1, 3, none⟩ = some (.slice (some ⟨w.heap.size, 0, none⟩) 1 1) ∧ W.cell? ⟨w.heap.size + 1, 4, none⟩ = some (.slice none 0 0) ∧ W.cell? ⟨w.heap.size + 1 + 1, 0, none⟩ = some (.int .i64 0) ∧ W.cell? ⟨w.heap.size + 1 + 1, 1, none⟩ = some (.int .i64 0) ∧ W.cell? ⟨w.heap.size + 1 + 1, 2, none⟩ = some (.bool false) ∧ W.cell? ⟨w.heap.size + 1 + 1, 3, none⟩ = some (.slice (some ⟨w.heap.size, 0, none⟩) 1 1) ∧ W.cell? ⟨w.heap.size + 1 + 1, 4, none⟩ = some (.slice none 0 0) ∧ Hid (Blk W w.heap.size #[.bool false, .string ⟨#[97]⟩, .string ⟨#[]⟩, .slice none 0 0] 41) ∧ Hid (Below w.heap.size w W) ∧ Hid (w.heap.size + 3 ≤ W.heap.size)) ((show LS w _; repeat (first | exact hS | refine LS.drew ?_ | refine LS.alloc ?_ _)))
    (first
    | (go_at_call 25; refine (made_calls _ _).mono ?_; rintro e w' ⟨rfl, rfl⟩)
    | (go_at_call 11; refine (clash_at _ _).mono ?_; rintro e w1 ⟨rfl, hb1, hs1⟩; have hS := (LS.below hS hb1))
    | (go_at_call 15; refine (may_at _ _ _ _ hS.read).mono ?_; rintro e w1 ⟨rfl, hb1, hs1⟩; have hS := (LS.below hS hb1)))
  go_wp2
  go_ret
  exact ⟨rfl, hS.after⟩
end Go.Proofs.Ytlbcckdbpgofmaa
