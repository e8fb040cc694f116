import Derived.Test.YtidfogcilegloaaW24
/-! A range over a function of two values, whose iterator reads alone. -/
namespace Go.Proofs.Ytidfogcilegloaa
open Go.RowKit Go.Op Go.Shelf

/-- Blocks of Y below z stay. -/
def Kept (Y : Nat → Prop) (z : Nat) (A B : World) : Prop := A.heap.size ≤ B.heap.size ∧ ∀ b, b < z → Y b → B.heap[b]? = A.heap[b]?
theorem Kept.refl (Y : Nat → Prop) (z : Nat) (A : World) : Kept Y z A A := ⟨Nat.le_refl _, fun _ _ _ => rfl⟩
theorem Kept.trans {Y : Nat → Prop} {z : Nat} {A B C : World} (h : Kept Y z A B) (k : Kept Y z B C) : Kept Y z A C := ⟨Nat.le_trans h.1 k.1, fun b hb hy => (k.2 b hb hy).trans (h.2 b hb hy)⟩
theorem Kept.mono {Y : Nat → Prop} {z z' : Nat} {A B : World} (h : Kept Y z A B) (hz : z' ≤ z) : Kept Y z' A B := ⟨h.1, fun b hb => h.2 b (by omega)⟩
theorem Kept.of_below {Y : Nat → Prop} {z : Nat} {A B : World} (h : Below A.heap.size A B) (hz : z ≤ A.heap.size) : Kept Y z A B := ⟨h.size, fun b hb _ => h.block b (by omega)⟩
/-- A loop's own blocks turn. -/
structure Turn (z : Nat) (A B : World) : Prop where
  os : B.os = A.os
  tape : B.tape = A.tape
  output : B.output = A.output
  size : A.heap.size ≤ B.heap.size
  block : ∀ b, b < A.heap.size → b ≠ z → b ≠ z + 1 → B.heap[b]? = A.heap[b]?
theorem Turn.of_below {z : Nat} {A B : World} (h : Below A.heap.size A B) : Turn z A B := ⟨h.os, h.tape, h.output, h.size, fun b hb _ _ => h.block b hb⟩
theorem Turn.put {z : Nat} (A : World) (o : Obj) : Turn z A (A.putObj (z + 1) o) :=
  have h := grownBy_putObj' A (z + 1) o
  ⟨h.os, h.tape, h.output, h.size, fun b hb _ h2 => h.block b hb (fun e => h2 (by injection e))⟩

/-- How a round may be left. -/
def leftBy {α : Type} (Y : Nat → Prop) (z : Nat) (I : List α → World → Prop) (Ix : Code → List α → World → Prop) (xs : List α) (W : World) : Exit → Act → World → Prop
  | .normal, _, W' => Kept Y (z + 2) W W' ∧ I xs W'
  | .ret, _, W' => Kept Y (z + 2) W W' ∧ Ix .ret xs W'
  | .exit id, _, W' => Kept Y (z + 2) W W' ∧ Ix (.exit id) xs W'
  | .goto t, _, W' => Kept Y (z + 2) W W' ∧ Ix (.goto t) xs W'
  | .panic _, _, _ => False
  | .outgrown, _, _ => False

theorem range2_law {n : Nat} {P : Program} {α : Type} {g : Operand} {p q : Tmp} {assign body : Code} {Q : Exit → Act → World → Prop} {a : Act} {w : World}
    (h1 : 1 ≤ n) {gf : Nat} {lb : Array Value} (hg : a.eval g = .func (.func gf) #[] lb) (eg : ∀ args w, (callFunc gf args).run P w = .ok (.enter gf args) w)
    (z : Nat) (hz : w.heap.size = z) (Y : Nat → Prop) (hY1 : Y z) (hY2 : Y (z + 1)) (S : List α) (e1 e2 : α → Value)
    (hseq : ∀ (l : Nat) (J Jx : List α → World → Prop) (W : World), Below z w W → (∀ s A B, J s A → Below A.heap.size A B → J s B) →
      (∀ pre x W1, J pre W1 → pre ++ [x] <+: S → YieldAt Fence.wide (n - 1 - 1) P l #[e1 x, e2 x] W1 fun e W' => (e = .returned (.bool true) ∧ J (pre ++ [x]) W' ∧ Kept Y z W1 W') ∨ (e = .returned (.bool false) ∧ Jx (pre ++ [x]) W')) → J [] W →
      (∀ s A B, Jx s A → Below A.heap.size A B → Jx s B) →
      CallsIn Fence.wide (n - 1) P gf (#[.func (.yield l) #[] #[]] ++ lb) W fun e W' => (∃ v, e = .returned v) ∧ (J S W' ∨ (∃ pre, Jx pre W')))
    (I : List α → World → Prop) (Ix : Code → List α → World → Prop) (hI : ∀ s A B, I s A → Turn z A B → I s B) (hIx : ∀ c s A B, Ix c s A → Turn z A B → Ix c s B) (h0 : I [] w) (a₁ : α → Act)
    (hassign : ∀ (l : Nat) (x : α) (W : World) (K : Act → World → Prop), K (a₁ x) W →
      assign.wpIn (Fence.wide.inRound l) (n - 1 - 1) P (Exit.then K (fun _ _ _ => False)) { tmps := (a.tmps.setIfInBounds p (e1 x)).setIfInBounds q (e2 x), defers := [] } W)
    (hbody : ∀ (l : Nat) (pre : List α) (x : α) (W : World), I pre W → pre ++ [x] <+: S → z + 2 ≤ W.heap.size → body.wpIn (Fence.wide.inRound l) (n - 1 - 1) P (leftBy Y z I Ix (pre ++ [x]) W) (a₁ x) W)
    (hdone : ∀ (D : Nat) (W : World), D = z → I S W → W.heap[D]? = some (.deferred (some [])) → Q .normal { a with defers := { target := .collected D, args := #[] } :: a.defers } W)
    (hstop : ∀ (D : Nat) (c : Code) (pre : List α) (W : World), D = z → Ix c pre W → W.heap[D]? = some (.deferred (some [])) → c.wpIn Fence.wide n P Q { a with defers := { target := .collected D, args := #[] } :: a.defers } W) :
    (Code.rangeFunc g #[p, q] assign body).wpIn Fence.wide n P Q a w := by
  refine wpIn_rangeFunc fun fn hfn => ?_
  rw [show Fence.wide.round = none from rfl]
  obtain ⟨rc, hrc⟩ : ∃ rc : LoopState → Option Code → Loop, rc = fun st pe => { state := st, pending := pe, fn, tmps := a.tmps, params := #[p, q], assign, body, defers := z } := ⟨_, rfl⟩
  have e0 := run_enterLoop_outer (P := P) (w := w) fn a.tmps #[p, q] assign body
  rw [hz, show ({ state := .ready, pending := none, fn, tmps := a.tmps, params := #[p, q], assign, body, defers := z } : Loop) = rc .ready none by rw [hrc]] at e0
  obtain ⟨W1, hW1⟩ : ∃ W1, (w.alloc (.deferred (some []))).alloc (.loop (rc .ready none)) = W1 := ⟨_, rfl⟩
  rw [hW1] at e0
  have hL : W1.heap[z + 1]? = some (.loop (rc .ready none)) := by
    rw [← hW1, ← hz]; have := World.alloc_heap_new (w.alloc (.deferred (some []))) (.loop (rc .ready none)); rwa [World.size_alloc] at this
  have hD : W1.heap[z]? = some (.deferred (some [])) := by
    rw [← hW1, ← hz]; exact (Below.heap_alloc _ _ _ (by simp)).trans (World.alloc_heap_new w _)
  have hb1 : Below w.heap.size w W1 := by rw [← hW1]; exact ((Below.refl _ w).alloc (Nat.le_refl _) _).alloc (by simp) _
  have hoth : ∀ (W : World) (o : Obj), (W.putObj (z + 1) o).heap[z]? = W.heap[z]? := fun W o => World.putObj_heap_other (by omega)
  have hkeep : ∀ (W : World) (o : Obj), Kept Y z W (W.putObj (z + 1) o) := fun W o => ⟨by simp, fun b hb _ => World.putObj_heap_other (by omega)⟩
  refine ⟨z + 1, [{ target := .collected z, args := #[] }], W1, { target := .fn (.func gf) lb, args := #[.func (.yield (z + 1)) #[] #[]] }, W1, gf, #[.func (.yield (z + 1)) #[] #[]] ++ lb, W1, e0, ?_, ?_, ?_, fun _ => h1, ?_⟩
  · simp only [resolve, hg]
    simp [go_sem]
  · intro f' hf'; trivial
  · simp [invoke, go_sem, eg]
  · refine (hseq (z + 1) (fun pre W => I pre W ∧ W.heap[z + 1]? = some (.loop (rc .ready none)) ∧ W.heap[z]? = some (.deferred (some [])))
      (fun pre W => ∃ c, Ix c pre W ∧ W.heap[z + 1]? = some (.loop (rc .done (some c))) ∧ W.heap[z]? = some (.deferred (some []))) W1 (hz ▸ hb1) ?_ ?_ ⟨hI _ _ _ h0 (Turn.of_below hb1), hL, hD⟩ ?_).mono ?_
    · rintro s A B ⟨k1, k2, k3⟩ hab
      have hlt := (Array.getElem?_eq_some_iff.1 k2).1
      exact ⟨hI _ _ _ k1 (Turn.of_below hab), (hab.block _ hlt).trans k2, (hab.block _ (by omega)).trans k3⟩
    · rintro pre x W ⟨hi, hl, hk⟩ hpre
      have hlt : z + 1 < W.heap.size := (Array.getElem?_eq_some_iff.1 hl).1
      have hy := run_yield (P := P) (args := #[e1 x, e2 x]) hl (by rw [hrc]; rfl)
      have hfold : (((rc .ready none).params.zip #[e1 x, e2 x]).foldl (fun tmps (t, a) => tmps.setIfInBounds t a) (rc .ready none).tmps) = (a.tmps.setIfInBounds p (e1 x)).setIfInBounds q (e2 x) := by rw [hrc]; simp
      rw [hfold] at hy
      rw [show (rc .ready none).fn = fn by rw [hrc], show (rc .ready none).assign = assign by rw [hrc], show (rc .ready none).body = body by rw [hrc]] at hy
      refine ⟨fn, _, assign, body, hy, roundIn_of_wpIn hfn (hassign _ x W _ ⟨_, run_beginRound hl (by rw [hrc]), ?_⟩)⟩
      have hl2 : (W.putObj (z + 1) (.loop { rc .ready none with state := .busy })).heap[z + 1]? = some (.loop { rc .ready none with state := .busy }) := World.putObj_heap_same hlt
      have hk2 := (hoth W (.loop { rc .ready none with state := .busy })).trans hk
      refine wpIn_mono (hbody _ pre x _ (hI _ _ _ hi (Turn.put _ _)) hpre (by simp; omega)) ?_
      have fin : ∀ (jump : Option Code) (W3 : World), Kept Y (z + 2) (W.putObj (z + 1) (.loop { rc .ready none with state := .busy })) W3 →
          (Instr.endRound (z + 1) jump).run P W3 = .ok (.bool jump.isNone) (W3.putObj (z + 1) (.loop (rc (if jump.isNone then .ready else .done) jump))) ∧
          (W3.putObj (z + 1) (.loop (rc (if jump.isNone then .ready else .done) jump))).heap[z + 1]? = some (.loop (rc (if jump.isNone then .ready else .done) jump)) ∧
          (W3.putObj (z + 1) (.loop (rc (if jump.isNone then .ready else .done) jump))).heap[z]? = some (.deferred (some [])) ∧ Kept Y z W (W3.putObj (z + 1) (.loop (rc (if jump.isNone then .ready else .done) jump))) := fun jump W3 hs => by
        have hl3 := (hs.2 (z + 1) (by omega) hY2).trans hl2
        have hk3 := (hs.2 z (by omega) hY1).trans hk2
        have h3 := run_endRound (P := P) jump hl3
        have hlt3 : z + 1 < W3.heap.size := (Array.getElem?_eq_some_iff.1 hl3).1
        refine ⟨by rw [h3, hrc], World.putObj_heap_same hlt3, (hoth _ _).trans hk3, ((hkeep W _).trans (hs.mono (by omega))).trans (hkeep W3 _)⟩
      rintro e a3 W3 hp
      cases e with
      | normal =>
        obtain ⟨hk3, hi3⟩ := hp
        obtain ⟨hr, hl4, hk4, hK⟩ := fin none W3 hk3
        exact ⟨_, _, hr, .inl ⟨rfl, ⟨hI _ _ _ hi3 (Turn.put _ _), hl4, hk4⟩, hK⟩⟩
      | ret =>
        obtain ⟨hk3, hi3⟩ := hp
        obtain ⟨hr, hl4, hk4, hK⟩ := fin (some .ret) W3 hk3
        exact ⟨_, _, hr, .inr ⟨rfl, .ret, hIx _ _ _ _ hi3 (Turn.put _ _), hl4, hk4⟩⟩
      | exit id =>
        obtain ⟨hk3, hi3⟩ := hp
        obtain ⟨hr, hl4, hk4, hK⟩ := fin (some (.exit id)) W3 hk3
        exact ⟨_, _, hr, .inr ⟨rfl, .exit id, hIx _ _ _ _ hi3 (Turn.put _ _), hl4, hk4⟩⟩
      | goto t =>
        obtain ⟨hk3, hi3⟩ := hp
        obtain ⟨hr, hl4, hk4, hK⟩ := fin (some (.goto t)) W3 hk3
        exact ⟨_, _, hr, .inr ⟨rfl, .goto t, hIx _ _ _ _ hi3 (Turn.put _ _), hl4, hk4⟩⟩
      | panic ch => exact hp.elim
      | outgrown => exact hp.elim
    · rintro s A B ⟨c, k1, k2, k3⟩ hab
      have hlt := (Array.getElem?_eq_some_iff.1 k2).1
      exact ⟨c, hIx _ _ _ _ k1 (Turn.of_below hab), (hab.block _ hlt).trans k2, (hab.block _ (by omega)).trans k3⟩
    · rintro e W2 ⟨⟨v, rfl⟩, (⟨hi, hl, hk⟩ | ⟨pre, c, hi, hl, hk⟩)⟩
      · have := run_endLoop (P := P) hl (by rw [hrc]; simp)
        rw [show (rc .ready none).pending = none by rw [hrc]] at this
        exact ⟨none, _, this, hdone z _ rfl (hI _ _ _ hi (Turn.put _ _)) ((hoth _ _).trans hk)⟩
      · have := run_endLoop (P := P) hl (by rw [hrc]; simp)
        rw [show (rc .done (some c)).pending = some c by rw [hrc]] at this
        exact ⟨some c, _, this, hstop z c pre _ rfl (hIx _ _ _ _ hi (Turn.put _ _)) ((hoth _ _).trans hk)⟩

/-- The keys of a range, with their chains' values. -/
def keysIn (ks : List ByteArray) (x y : ByteArray) : List ByteArray := (ks.drop (lowS ks x)).takeWhile fun k => klt k y
def valOf (V : List (ByteArray × Value)) (k : ByteArray) : Value := (look V k).getD (.slice none 0 0)
def encKV (p : ByteArray × Value) : Array Value := #[.string p.1, p.2]
def selV (ks : List ByteArray) (V : List (ByteArray × Value)) (x y : ByteArray) : List (ByteArray × Value) := (keysIn ks x y).map fun k => (k, valOf V k)

/-- What an iterator reads. -/
structure Btw (z : Nat) (Y : Nat → Prop) (W : World) (pb mb bs bf bt : Nat) (kv : Value) (x y : ByteArray) (ks : List ByteArray) (V : List (ByteArray × Value)) (l f : Int) : Prop where
  c1 : W.cell? ⟨bs, 0, none⟩ = some (.pointer (some ⟨pb, 0, none⟩))
  c2 : W.cell? ⟨bf, 0, none⟩ = some (.string x)
  c3 : W.cell? ⟨bt, 0, none⟩ = some (.string y)
  blk : Blk W pb #[.map (some mb), kv, .int .i64 l, .int .i64 f] 73
  keys : Own Ty.str W 0 9 none_ kv ks
  map : Mp KS W mb V
  own : ∀ b, (b = bs ∨ b = bf ∨ b = bt ∨ b = pb ∨ b = mb ∨ kv.ownBlock = some b) → b < z ∧ Y b
section
variable {z : Nat} {Y : Nat → Prop} {W W' : World} {pb mb bs bf bt : Nat} {kv : Value} {x y : ByteArray} {ks : List ByteArray} {V : List (ByteArray × Value)} {l f : Int}
theorem Btw.kept (h : Btw z Y W pb mb bs bf bt kv x y ks V l f) (k : Kept Y z W W') : Btw z Y W' pb mb bs bf bt kv x y ks V l f := by
  have hk : ∀ b, (b = bs ∨ b = bf ∨ b = bt ∨ b = pb ∨ b = mb ∨ kv.ownBlock = some b) → W'.heap[b]? = W.heap[b]? := fun b hb => k.2 b (h.own b hb).1 (h.own b hb).2
  have hc : ∀ b, (b = bs ∨ b = bf ∨ b = bt ∨ b = pb ∨ b = mb ∨ kv.ownBlock = some b) → W'.cell? ⟨b, 0, none⟩ = W.cell? ⟨b, 0, none⟩ := fun b hb => World.cell?_of_block (hk b hb)
  refine ⟨(hc _ (by simp)).trans h.c1, (hc _ (by simp)).trans h.c2, (hc _ (by simp)).trans h.c3, (hk _ (by simp)).trans h.blk, ?_, h.map.same (hk _ (by simp)), h.own⟩
  obtain ⟨cs, ⟨e1, hr⟩, hcs⟩ := h.keys
  refine ⟨cs, ⟨e1, ?_⟩, hcs.step fun b hb => hb.1.elim⟩
  rcases hr with hr | ⟨g, cap, rest, e2, hb, hB, r⟩
  · exact .inl hr
  · subst e2
    exact .inr ⟨g, cap, rest, rfl, hb, (hk g (by simp [Value.ownBlock])).trans hB, r⟩
end
end Go.Proofs.Ytidfogcilegloaa
