import Derived.Test.YtidfogcilegloaaS7
/-! A session's Record. -/
namespace Go.Proofs.Ytidfogcilegloaa
open Go.RowKit Go.Op

/-- A session's cells in later worlds. -/
def RS (xb : Nat) (id sn : Int) (st : Bool) (rv mv : Value) (w1 X : World) : Prop :=
  X.cell? ⟨xb, 0, none⟩ = some (.int .i64 id) ∧ X.cell? ⟨xb, 2, none⟩ = some (.int .i64 sn) ∧ X.cell? ⟨xb, 3, none⟩ = some (.bool st) ∧ X.cell? ⟨xb, 4, none⟩ = some rv ∧ X.cell? ⟨xb, 5, none⟩ = some mv ∧ Hid (Below w1.heap.size w1 X) ∧ Hid (xb < w1.heap.size)
section
variable {xb : Nat} {id sn : Int} {st : Bool} {rv mv : Value} {w1 X X' : World}
theorem RS.below (h : RS xb id sn st rv mv w1 X) (hb : Below X.heap.size X X') : RS xb id sn st rv mv w1 X' := by
  obtain ⟨a0, a1, a2, a3, a4, hB, hz⟩ := h
  have hz' := hz.out
  have hz3 := hB.out.size
  obtain ⟨hc, -⟩ := bcell hb
  refine ⟨?_, ?_, ?_, ?_, ?_, hB.out.trans (hb.mono hB.out.size), hz⟩ <;> (rw [hc _ _ (by omega)]; assumption)
theorem RS.alloc (h : RS xb id sn st rv mv w1 X) (o : Obj) : RS xb id sn st rv mv w1 (X.alloc o) := h.below ((Below.refl _ _).alloc (Nat.le_refl _) o)
theorem RS.drew (h : RS xb id sn st rv mv w1 X) : RS xb id sn st rv mv w1 X.drew := h.below (Below.refl _ _).drew
theorem RS.far (h : RS xb id sn st rv mv w1 X) {gz : Nat} (hg : w1.heap.size ≤ gz) (j : Nat) (u : Value) : RS xb id sn st rv mv w1 (X.setCell ⟨gz, j, none⟩ u) := by
  obtain ⟨a0, a1, a2, a3, a4, hB, hz⟩ := h
  have hz' := hz.out
  refine ⟨?_, ?_, ?_, ?_, ?_, hB.out.setCell (p := ⟨gz, j, none⟩) hg u, hz⟩ <;> (rw [World.cell?_setCell_other _ _ _ _ (fun e => by injection e with e; omega)]; assumption)
theorem RS.after (h : RS xb id sn st rv mv w1 X) : Below w1.heap.size w1 X := h.2.2.2.2.2.1.out
end
theorem via5 {α β γ δ ε : Type} {Goal : Prop} (H : α → β → γ → δ → ε → Prop) {G : α → β → γ → δ → ε → Prop} (main : Hid (∀ a b c d e, H a b c d e → G a b c d e) → Goal) (key : ∀ a b c d e, H a b c d e → G a b c d e) : Goal := main key
section
variable {w : World} {xb : Nat} {rv : Value} {qb nb sb : Nat} {X Y : List Nat} {s : Ses}
set_option maxHeartbeats 4000000 in
theorem srecord_calls (h : Opn w xb rv qb nb sb X Y s) : Calls Try.prog 11 #[.pointer (some ⟨xb, 0, none⟩)] w fun e w' => ∃ R nr cr W nw cw, e = .returned (.tuple #[.agg #[.int .i64 s.id, .int .i64 s.snap, .bool s.strict, .slice R nr cr, .slice W nw cw], .bool true]) ∧
      Sl C.tRead w' (fun _ => True) (.slice R nr cr) (C.keep [] s.reads) ∧ Sl tPair w' (fun _ => True) (.slice W nw cw) s.mine ∧ Below w.heap.size w w' := by
  obtain ⟨w1, hw1⟩ : ∃ w1, w.alloc (.cells #[.int .i64 0, .int .i64 0, .bool false, .slice none 0 0, .slice none 0 0] 34) = w1 := ⟨_, rfl⟩
  have hb1 : Below w.heap.size w w1 := by rw [← hw1]; exact (Below.refl _ _).alloc (Nat.le_refl _) _
  have hg1 : Blk w1 w.heap.size #[.int .i64 0, .int .i64 0, .bool false, .slice none 0 0, .slice none 0 0] 34 := by rw [← hw1]; exact Blk.new _ _ _
  obtain ⟨g, hg⟩ : ∃ g, w.heap.size = g := ⟨_, rfl⟩
  have h1 := h.below hb1
  have HMD := Lib.hid (smade_calls xb s.id w1 (h1.blk.cell 0) h.pos)
  have c1 : w1.cell? ⟨xb, 1, none⟩ = some (.bool true) := by rw [← h.ok.op]; exact h1.blk.cell 1
  obtain ⟨A, c, hrv, -⟩ := h.reads.form
  obtain ⟨n, hn⟩ : ∃ n, s.reads.length = n := ⟨_, rfl⟩
  have hn64 : n ≤ 64 := by have := h.ok.nr; have := h.ok.o64; omega
  rw [hn] at hrv
  subst hrv
  have hS : RS xb s.id s.snap s.strict (.slice A n c) (.pointer (some ⟨qb, 0, none⟩)) w1 w1 := ⟨h1.blk.cell 0, h1.blk.cell 2, h1.blk.cell 3, h1.blk.cell 4, h1.blk.cell 5, Below.refl _ _, h1.blk.lt⟩
  have HW : Hid (∀ W', Below w1.heap.size w1 W' → Calls Try.prog 30 #[.pointer (some ⟨qb, 0, none⟩)] W' fun e w' => ∃ W nw cw, e = .returned (.slice W nw cw) ∧ Hid (Sl tPair w' (fun b => W'.heap.size ≤ b) (.slice W nw cw) s.mine) ∧ Below W'.heap.size W' w') := fun W' hb =>
    (B.writes_calls qb nb s.mine W' (h1.below hb).buf).mono fun e w' ⟨v, e1, e2, e3⟩ => by
      obtain ⟨W, cw, hv, -⟩ := e2.form
      exact ⟨W, _, cw, by rw [e1, hv], by rw [← hv]; exact e2, e3⟩
  have HO := Lib.hid h1
  have HG1 : Hid (Blk w1 g #[.int .i64 0, .int .i64 0, .bool false, .slice none 0 0, .slice none 0 0] 34) := by rw [← hg]; exact hg1
  have HB1 : Hid (Below g w w1) := by rw [← hg]; exact hb1
  have HG := Lib.hid hg
  have HR0 : Hid (Sl C.tRead w1 (fun b => b < g) (.slice A n c) s.reads) := by rw [← hg]; exact (h.reads.sl.inb.mono fun b hb => hb.2).below hb1
  obtain ⟨si, so, ss, st, sr, sm, sp, sn⟩ := s
  dsimp only at hS HMD
  go_enter Try.func11, Try.ntmps11
  clear h h1 hb1 hg1 hn
  go_wp2_with fail
  clear hg hw1
  refine HMD.out.mono ?_
  rintro e w' ⟨rfl, rfl⟩
  go_wp2_with fail
  apply via5 (fun gq W nw cw wq => Hid (Blk wq gq #[.int .i64 si, .int .i64 ss, .bool st, .slice A n c, .slice W nw cw] 34) ∧ Hid (Sl tPair wq (fun b => w1.heap.size ≤ b ∧ b ≠ gq) (.slice W nw cw) sm) ∧ Hid (Below w1.heap.size w1 wq) ∧ w1.heap.size ≤ gq)
  case main =>
    intro HKEY
    go_region_held3 (fun X => X.cell? ⟨xb, 0, none⟩ = some (.int .i64 si) ∧ X.cell? ⟨xb, 2, none⟩ = some (.int .i64 ss) ∧ X.cell? ⟨xb, 3, none⟩ = some (.bool st) ∧ X.cell? ⟨xb, 4, none⟩ = some (.slice A n c) ∧ X.cell? ⟨xb, 5, none⟩ = some (.pointer (some ⟨qb, 0, none⟩)) ∧ Hid (Below w1.heap.size w1 X) ∧ Hid (xb < w1.heap.size)) ((show RS xb si ss st (.slice A n c) (.pointer (some ⟨qb, 0, none⟩)) w1 _; (repeat (first | with_reducible exact hS | with_reducible refine RS.drew ?_ | with_reducible refine RS.alloc ?_ _ | with_reducible refine RS.far ?_ (by first | exact Nat.le_refl _ | (simp; omega)) _ _))))
      (first
        | (go_at_call 30; refine (HW.out _ ?_).mono ?_; (focus exact (show RS xb si ss st (.slice A n c) (.pointer (some ⟨qb, 0, none⟩)) w1 _ by (repeat (first | with_reducible exact hS | with_reducible refine RS.drew ?_ | with_reducible refine RS.alloc ?_ _ | with_reducible refine RS.far ?_ (by first | exact Nat.le_refl _ | (simp; omega)) _ _))).after); rintro e wx ⟨W, nw, cw, rfl, hW, hbx⟩; have hS : RS xb si ss st (.slice A n c) (.pointer (some ⟨qb, 0, none⟩)) w1 wx := RS.below (by (repeat (first | with_reducible exact hS | with_reducible refine RS.drew ?_ | with_reducible refine RS.alloc ?_ _ | with_reducible refine RS.far ?_ (by first | exact Nat.le_refl _ | (simp; omega)) _ _))) hbx; try (have hgz : Blk wx w1.heap.size #[.int .i64 0, .int .i64 0, .bool false, .slice none 0 0, .slice none 0 0] 34 := Blk.below (w := (w1.alloc (.cells #[.int .i64 0, .int .i64 0, .bool false, .slice none 0 0, .slice none 0 0] 34)).drew) (Blk.new w1 _ 34) hbx (by simp); have z0 : wx.cell? ⟨w1.heap.size, 0, none⟩ = some (.int .i64 0) := hgz.cell 0; have z1 : wx.cell? ⟨w1.heap.size, 1, none⟩ = some (.int .i64 0) := hgz.cell 1; have z2 : wx.cell? ⟨w1.heap.size, 2, none⟩ = some (.bool false) := hgz.cell 2; have z3 : wx.cell? ⟨w1.heap.size, 3, none⟩ = some (.slice none 0 0) := hgz.cell 3; have z4 : wx.cell? ⟨w1.heap.size, 4, none⟩ = some (.slice none 0 0) := hgz.cell 4; have y0 : wx.frozen? ⟨w1.heap.size, 0, none⟩ = false := hgz.frozen 0; have y1 : wx.frozen? ⟨w1.heap.size, 1, none⟩ = false := hgz.frozen 1; have y2 : wx.frozen? ⟨w1.heap.size, 2, none⟩ = false := hgz.frozen 2; have y3 : wx.frozen? ⟨w1.heap.size, 3, none⟩ = false := hgz.frozen 3; have y4 : wx.frozen? ⟨w1.heap.size, 4, none⟩ = false := hgz.frozen 4; have HGZ := Lib.hid hgz; clear hgz)))
    · have F : Hid (Blk (wx.alloc (.cells #[.int .i64 si, .int .i64 ss, .bool st, .slice A n c, .slice W nw cw] 34)) wx.heap.size #[.int .i64 si, .int .i64 ss, .bool st, .slice A n c, .slice W nw cw] 34) ∧ Hid (Sl tPair (wx.alloc (.cells #[.int .i64 si, .int .i64 ss, .bool st, .slice A n c, .slice W nw cw] 34)) (fun b => w1.heap.size ≤ b ∧ b ≠ wx.heap.size) (.slice W nw cw) sm) ∧
          Hid (Below w1.heap.size w1 (wx.alloc (.cells #[.int .i64 si, .int .i64 ss, .bool st, .slice A n c, .slice W nw cw] 34))) ∧ w1.heap.size ≤ wx.heap.size :=
        ⟨Blk.new _ _ _, (hW.out.inb.mono fun b hb => (show w1.heap.size ≤ b ∧ b ≠ wx.heap.size from ⟨hb.1, by have := hb.2; omega⟩)).below ((Below.refl _ _).alloc (Nat.le_refl _) _), (RS.alloc hS _).after, hS.after.size⟩
      generalize wx.alloc (.cells #[.int .i64 si, .int .i64 ss, .bool st, .slice A n c, .slice W nw cw] 34) = wq at F ⊢
      generalize wx.heap.size = gq at F ⊢
      exact HKEY.out _ _ _ _ _ F
    · have hS9 := RS.far (RS.far (RS.far (RS.far (RS.far hS (Nat.le_refl _) 0 (.int .i64 si)) (Nat.le_refl _) 1 (.int .i64 ss)) (Nat.le_refl _) 2 (.bool st)) (Nat.le_refl _) 3 (.slice A n c)) (Nat.le_refl _) 4 (.slice W nw cw)
      have hfar : ∀ (V : World) (j : Nat) (u : Value) (b : Nat), w1.heap.size < b → (V.setCell ⟨w1.heap.size, j, none⟩ u).heap[b]? = V.heap[b]? := fun V j u b hb => Below.heap_setCell V ⟨w1.heap.size, j, none⟩ u b (by show b ≠ w1.heap.size; omega)
      have F : Hid (Blk (((((wx.setCell ⟨w1.heap.size, 0, none⟩ (.int .i64 si)).setCell ⟨w1.heap.size, 1, none⟩ (.int .i64 ss)).setCell ⟨w1.heap.size, 2, none⟩ (.bool st)).setCell ⟨w1.heap.size, 3, none⟩ (.slice A n c)).setCell ⟨w1.heap.size, 4, none⟩ (.slice W nw cw)) w1.heap.size #[.int .i64 si, .int .i64 ss, .bool st, .slice A n c, .slice W nw cw] 34) ∧
          Hid (Sl tPair (((((wx.setCell ⟨w1.heap.size, 0, none⟩ (.int .i64 si)).setCell ⟨w1.heap.size, 1, none⟩ (.int .i64 ss)).setCell ⟨w1.heap.size, 2, none⟩ (.bool st)).setCell ⟨w1.heap.size, 3, none⟩ (.slice A n c)).setCell ⟨w1.heap.size, 4, none⟩ (.slice W nw cw)) (fun b => w1.heap.size ≤ b ∧ b ≠ w1.heap.size) (.slice W nw cw) sm) ∧
          Hid (Below w1.heap.size w1 (((((wx.setCell ⟨w1.heap.size, 0, none⟩ (.int .i64 si)).setCell ⟨w1.heap.size, 1, none⟩ (.int .i64 ss)).setCell ⟨w1.heap.size, 2, none⟩ (.bool st)).setCell ⟨w1.heap.size, 3, none⟩ (.slice A n c)).setCell ⟨w1.heap.size, 4, none⟩ (.slice W nw cw))) ∧ w1.heap.size ≤ w1.heap.size :=
        ⟨((((HGZ.out.set 0 (.int .i64 si)).set 1 (.int .i64 ss)).set 2 (.bool st)).set 3 (.slice A n c)).set 4 (.slice W nw cw),
          (hW.out.step (fun b hb => by have hb' : w1.heap.size + 1 ≤ b := (by simpa using hb); rw [hfar _ _ _ _ (by omega), hfar _ _ _ _ (by omega), hfar _ _ _ _ (by omega), hfar _ _ _ _ (by omega), hfar _ _ _ _ (by omega)])).mono fun b hb => by have hb' : w1.heap.size + 1 ≤ b := (by simpa using hb); omega, hS9.after, Nat.le_refl _⟩
      generalize ((((wx.setCell ⟨w1.heap.size, 0, none⟩ (.int .i64 si)).setCell ⟨w1.heap.size, 1, none⟩ (.int .i64 ss)).setCell ⟨w1.heap.size, 2, none⟩ (.bool st)).setCell ⟨w1.heap.size, 3, none⟩ (.slice A n c)).setCell ⟨w1.heap.size, 4, none⟩ (.slice W nw cw) = wq at F ⊢
      obtain ⟨gq, hgq⟩ : ∃ gq, w1.heap.size = gq := ⟨_, rfl⟩
      rw [hgq]
      exact HKEY.out gq W nw cw wq (by rw [hgq] at F; simpa only [hgq] using F)
  case key =>
    intro gq W nw cw wq ⟨hB, hW, hb, hgq⟩
    have q0 := hB.out.cell 0
    have q1 := hB.out.cell 1
    have q2 := hB.out.cell 2
    have q3 := hB.out.cell 3
    have q4 := hB.out.cell 4
    simp only [List.getElem?_toArray, List.getElem?_cons_succ, List.getElem?_cons_zero] at q0 q1 q2 q3 q4
    have HOW : Hid (Calls Try.prog 31 #[.agg #[.int .i64 si, .int .i64 ss, .bool st, .slice A n c, .slice W nw cw]] wq fun e w' => ∃ A2 n2 c2, e = .returned (.slice A2 n2 c2) ∧ Hid (Sl C.tRead w' (fun b => b < g ∨ wq.heap.size ≤ b) (.slice A2 n2 c2) (C.keep [] sr)) ∧ Below wq.heap.size wq w') :=
      (C.own_calls_ok si ss st A n c W nw cw (fun b => b < g) sr wq (HR0.out.below hb.out) (fun x hx => by have := HO.out.ok.keys x hx; unfold maxLen; omega) (by omega)).mono fun e w' ⟨v, e1, e2, e3⟩ => by
        obtain ⟨A2, c2, hv, -⟩ := e2.form
        exact ⟨A2, _, c2, by rw [e1, hv], by rw [← hv]; exact e2, e3⟩
    have hg1 := HG1.out.lt
    have hgl : Hid (g < gq) := Nat.lt_of_lt_of_le hg1 hgq
    have HX1 := Lib.hid hgq
    clear hg1 hgq
    go_wp2_with fail
    refine HOW.out.mono ?_
    rintro e w2 ⟨A2, n2, c2, rfl, hR2, hb2⟩
    have HB2 := Lib.hid hb2
    have hB2 : Blk w2 gq #[.int .i64 si, .int .i64 ss, .bool st, .slice A n c, .slice W nw cw] 34 := hB.out.below hb2 hB.out.lt
    have hG2 : Blk w2 g #[.int .i64 0, .int .i64 0, .bool false, .slice none 0 0, .slice none 0 0] 34 := (HG1.out.below hb.out HG1.out.lt).below hb2 (HG1.out.below hb.out HG1.out.lt).lt
    have y3 : w2.cell? ⟨gq, 3, none⟩ = some (.slice A n c) := hB2.cell 3
    have f3 := hB2.frozen 3
    have hB3 : Blk (w2.setCell ⟨gq, 3, none⟩ (.slice A2 n2 c2)) gq #[.int .i64 si, .int .i64 ss, .bool st, .slice A2 n2 c2, .slice W nw cw] 34 := hB2.set 3 (.slice A2 n2 c2)
    have hG3 : Blk (w2.setCell ⟨gq, 3, none⟩ (.slice A2 n2 c2)) g #[.int .i64 0, .int .i64 0, .bool false, .slice none 0 0, .slice none 0 0] 34 := hG2.far (p := ⟨gq, 3, none⟩) (by show g ≠ gq; have := hgl.out; omega) _
    have x0 : (w2.setCell ⟨gq, 3, none⟩ (.slice A2 n2 c2)).cell? ⟨gq, 0, none⟩ = some (.int .i64 si) := hB3.cell 0
    have x1 : (w2.setCell ⟨gq, 3, none⟩ (.slice A2 n2 c2)).cell? ⟨gq, 1, none⟩ = some (.int .i64 ss) := hB3.cell 1
    have x2 : (w2.setCell ⟨gq, 3, none⟩ (.slice A2 n2 c2)).cell? ⟨gq, 2, none⟩ = some (.bool st) := hB3.cell 2
    have x3 : (w2.setCell ⟨gq, 3, none⟩ (.slice A2 n2 c2)).cell? ⟨gq, 3, none⟩ = some (.slice A2 n2 c2) := hB3.cell 3
    have x4 : (w2.setCell ⟨gq, 3, none⟩ (.slice A2 n2 c2)).cell? ⟨gq, 4, none⟩ = some (.slice W nw cw) := hB3.cell 4
    have u0 : (w2.setCell ⟨gq, 3, none⟩ (.slice A2 n2 c2)).cell? ⟨g, 0, none⟩ = some (.int .i64 0) := hG3.cell 0
    have u1 : (w2.setCell ⟨gq, 3, none⟩ (.slice A2 n2 c2)).cell? ⟨g, 1, none⟩ = some (.int .i64 0) := hG3.cell 1
    have u2 : (w2.setCell ⟨gq, 3, none⟩ (.slice A2 n2 c2)).cell? ⟨g, 2, none⟩ = some (.bool false) := hG3.cell 2
    have u3 : (w2.setCell ⟨gq, 3, none⟩ (.slice A2 n2 c2)).cell? ⟨g, 3, none⟩ = some (.slice none 0 0) := hG3.cell 3
    have u4 : (w2.setCell ⟨gq, 3, none⟩ (.slice A2 n2 c2)).cell? ⟨g, 4, none⟩ = some (.slice none 0 0) := hG3.cell 4
    have v0 := hG3.frozen 0
    have v1 := hG3.frozen 1
    have v2 := hG3.frozen 2
    have v3 := hG3.frozen 3
    have v4 := hG3.frozen 4
    have HG3 := Lib.hid hG3
    clear hb2 hB2 hG2 hB3 hG3 q0 q1 q2 q3 q4
    go_wp2_with fail
    have hB9 : Blk ((((((w2.setCell ⟨gq, 3, none⟩ (.slice A2 n2 c2)).setCell ⟨g, 0, none⟩ (.int .i64 si)).setCell ⟨g, 1, none⟩ (.int .i64 ss)).setCell ⟨g, 2, none⟩ (.bool st)).setCell ⟨g, 3, none⟩ (.slice A2 n2 c2)).setCell ⟨g, 4, none⟩ (.slice W nw cw)) g #[.int .i64 si, .int .i64 ss, .bool st, .slice A2 n2 c2, .slice W nw cw] 34 := ((((HG3.out.set 0 (.int .i64 si)).set 1 (.int .i64 ss)).set 2 (.bool st)).set 3 (.slice A2 n2 c2)).set 4 (.slice W nw cw)
    have hfar : ∀ (V : World) (j : Nat) (u : Value) (b z : Nat), b ≠ z → (V.setCell ⟨z, j, none⟩ u).heap[b]? = V.heap[b]? := fun V j u b z hb => Below.heap_setCell V ⟨z, j, none⟩ u b hb
    have hall : ∀ b, b ≠ gq → b ≠ g → ((((((w2.setCell ⟨gq, 3, none⟩ (.slice A2 n2 c2)).setCell ⟨g, 0, none⟩ (.int .i64 si)).setCell ⟨g, 1, none⟩ (.int .i64 ss)).setCell ⟨g, 2, none⟩ (.bool st)).setCell ⟨g, 3, none⟩ (.slice A2 n2 c2)).setCell ⟨g, 4, none⟩ (.slice W nw cw)).heap[b]? = w2.heap[b]? := fun b h1 h2 => by
      rw [hfar _ _ _ _ _ h2, hfar _ _ _ _ _ h2, hfar _ _ _ _ _ h2, hfar _ _ _ _ _ h2, hfar _ _ _ _ _ h2, hfar _ _ _ _ _ h1]
    have hbe : Below g w2 ((((((w2.setCell ⟨gq, 3, none⟩ (.slice A2 n2 c2)).setCell ⟨g, 0, none⟩ (.int .i64 si)).setCell ⟨g, 1, none⟩ (.int .i64 ss)).setCell ⟨g, 2, none⟩ (.bool st)).setCell ⟨g, 3, none⟩ (.slice A2 n2 c2)).setCell ⟨g, 4, none⟩ (.slice W nw cw)) := (((((((Below.refl g w2).setCell (p := ⟨gq, 3, none⟩) (Nat.le_of_lt hgl.out) _).setCell (p := ⟨g, 0, none⟩) (Nat.le_refl _) _).setCell (p := ⟨g, 1, none⟩) (Nat.le_refl _) _).setCell (p := ⟨g, 2, none⟩) (Nat.le_refl _) _).setCell (p := ⟨g, 3, none⟩) (Nat.le_refl _) _).setCell (p := ⟨g, 4, none⟩) (Nat.le_refl _) _)
    generalize ((((((w2.setCell ⟨gq, 3, none⟩ (.slice A2 n2 c2)).setCell ⟨g, 0, none⟩ (.int .i64 si)).setCell ⟨g, 1, none⟩ (.int .i64 ss)).setCell ⟨g, 2, none⟩ (.bool st)).setCell ⟨g, 3, none⟩ (.slice A2 n2 c2)).setCell ⟨g, 4, none⟩ (.slice W nw cw)) = w9 at *
    clear x0 x1 x2 x3 x4 u0 u1 u2 u3 u4 v0 v1 v2 v3 v4 y3 f3
    have z0 : w9.cell? ⟨g, 0, none⟩ = some (.int .i64 si) := hB9.cell 0
    have z1 : w9.cell? ⟨g, 1, none⟩ = some (.int .i64 ss) := hB9.cell 1
    have z2 : w9.cell? ⟨g, 2, none⟩ = some (.bool st) := hB9.cell 2
    have z3 : w9.cell? ⟨g, 3, none⟩ = some (.slice A2 n2 c2) := hB9.cell 3
    have z4 : w9.cell? ⟨g, 4, none⟩ = some (.slice W nw cw) := hB9.cell 4
    have hsz := hb.out.size
    have hgl2 := hgl.out
    have hqlt := hB.out.lt
    have hx1 := HX1.out
    have hw2 : ∀ b, w1.heap.size ≤ b ∧ b ≠ gq → b < wq.heap.size → w2.heap[b]? = wq.heap[b]? := fun b _ hl => HB2.out.block b hl
    refine bodyPost_ret (v := .tuple #[.agg #[.int .i64 si, .int .i64 ss, .bool st, .slice A2 n2 c2, .slice W nw cw], .bool true]) (by simp [results, Try.results11, go_sem, z0, z1, z2, z3, z4]) rfl ⟨A2, n2, c2, W, nw, cw, rfl, ?_, ?_, ?_⟩
    · exact (hR2.out.step fun b hb => hall b (by omega) (by omega)).mono fun _ _ => trivial
    · have hg1 := HG1.out.lt
      exact (hW.out.inb.step fun b hb => (hall b hb.1.2 (by have := hb.1.1; omega)).trans (hw2 b hb.1 hb.2)).mono fun _ _ => trivial
    · rw [HG.out]
      have hg1 := HG1.out.lt
      exact ((HB1.out.trans (hb.out.mono (by omega))).trans (HB2.out.mono (by omega))).trans hbe
end
end Go.Proofs.Ytidfogcilegloaa
