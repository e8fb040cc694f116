import Derived.Test.YtidjcdfdfbomiaaW15
import Derived.RangeFuncNested
import Derived.RangeFuncBound
import Derived.RangeFuncCalls
import Derived.RangeFuncLeaves
import Derived.Shelf.Abstract
import Derived.Shelf.RegionOpen
import Derived.WalkKit
import Derived.OwnWalkIn
import Derived.TacticsInMore
import Derived.LoopNIn
import Derived.LoopIn
import Derived.RangeFuncBox
/-! A range over a function whose iterator writes cells of its own between two rounds. -/
namespace Go.Proofs.Ytidjcdfdfbomiaa
open Go.RowKit Go.Op Go.Shelf

/-- All blocks stay but those from lo up to hi. -/
def Stays (lo hi : Nat) (A B : World) : Prop := A.heap.size ≤ B.heap.size ∧ ∀ b, (b < lo ∨ hi ≤ b) → b < A.heap.size → B.heap[b]? = A.heap[b]?
theorem Stays.refl (lo hi : Nat) (A : World) : Stays lo hi A A := ⟨Nat.le_refl _, fun _ _ _ => rfl⟩
theorem Stays.trans {lo hi : Nat} {A B C : World} (h : Stays lo hi A B) (k : Stays lo hi B C) : Stays lo hi A C :=
  ⟨Nat.le_trans h.1 k.1, fun b hb hl => (k.2 b hb (Nat.lt_of_lt_of_le hl h.1)).trans (h.2 b hb hl)⟩
theorem Stays.mono {lo hi hi' : Nat} {A B : World} (h : Stays lo hi A B) (hh : hi ≤ hi') : Stays lo hi' A B :=
  ⟨h.1, fun b hb hl => h.2 b (hb.imp id (Nat.le_trans hh)) hl⟩
theorem Stays.put {lo hi : Nat} (W : World) {l : Nat} (o : Obj) (h1 : lo ≤ l) (h2 : l < hi) : Stays lo hi W (W.putObj l o) :=
  ⟨by simp, fun b hb _ => World.putObj_heap_other (by omega)⟩

/-- How a round may be left. -/
def leftBy {α : Type} (lo hi : Nat) (I : List α → World → Prop) (Ix : Code → List α → World → Prop) (xs : List α) (W : World) : Exit → Act → World → Prop
  | .normal, _, W' => Stays lo hi W W' ∧ I xs W'
  | .ret, _, W' => Stays lo hi W W' ∧ Ix .ret xs W'
  | .exit id, _, W' => Stays lo hi W W' ∧ Ix (.exit id) xs W'
  | .goto t, _, W' => Stays lo hi W W' ∧ Ix (.goto t) xs W'
  | .panic _, _, _ => False
  | .outgrown, _, _ => False

theorem range_law {F : Fence} {n : Nat} {P : Program} {α : Type} {g : Operand} {p : Tmp} {assign body : Code} {Q : Exit → Act → World → Prop} {a : Act} {w : World}
    (hro : F.round = none) (h1 : 1 ≤ n) {gf : Nat} {lb : Array Value} (hg : a.eval g = .func (.func gf) #[] lb) (hFg : F.fn gf) (eg : ∀ args w, (callFunc gf args).run P w = .ok (.enter gf args) w)
    (lo : Nat) (hlo : lo ≤ w.heap.size) (S : List α) (V : Nat → α → Value → World → Prop)
    (hseq : ∀ (l : Nat) (J Jx : List α → World → Prop) (W : World), Below w.heap.size w W → (∀ s A B, J s A → Below W.heap.size A B → J s B) →
      (∀ pre x v W1, J pre W1 → pre ++ [x] <+: S → V W.heap.size x v W1 → YieldAt F (n - 1 - 1) P l #[v] W1 fun e W' => (e = .returned (.bool true) ∧ J (pre ++ [x]) W' ∧ Stays lo W.heap.size W1 W') ∨ (e = .returned (.bool false) ∧ Jx (pre ++ [x]) W' ∧ Stays lo W.heap.size W1 W')) → J [] W →
      (∀ s A B, Jx s A → Below W.heap.size A B → Jx s B) →
      CallsIn F (n - 1) P gf (#[.func (.yield l) #[] #[]] ++ lb) W fun e W' => (∃ v, e = .returned v) ∧ (J S W' ∨ (∃ pre, Jx pre W')))
    (I : List α → World → Prop) (Ix : Code → List α → World → Prop) (hI : ∀ s A B, I s A → Below w.heap.size A B → I s B) (hIx : ∀ c s A B, Ix c s A → Below w.heap.size A B → Ix c s B) (h0 : I [] w) (a₁ : Value → Act)
    (hassign : ∀ (l : Nat) (v : Value) (W : World) (K : Act → World → Prop), K (a₁ v) W →
      assign.wpIn (F.inRound l) (n - 1 - 1) P (Exit.then K (fun _ _ _ => False)) { tmps := a.tmps.setIfInBounds p v, defers := [] } W)
    (hbody : ∀ (l : Nat) (pre : List α) (x : α) (v : Value) (W W0 : World), I pre W → pre ++ [x] <+: S → V (w.heap.size + 2) x v W0 → Stays lo (w.heap.size + 2) W0 W → body.wpIn (F.inRound l) (n - 1 - 1) P (leftBy lo w.heap.size I Ix (pre ++ [x]) W) (a₁ v) W)
    (hdone : ∀ (D : Nat) (W : World), w.heap.size ≤ D → I S W → W.heap[D]? = some (.deferred (some [])) → Q .normal { a with defers := { target := .collected D, args := #[] } :: a.defers } W)
    (hstop : ∀ (D : Nat) (c : Code) (pre : List α) (W : World), w.heap.size ≤ D → Ix c pre W → W.heap[D]? = some (.deferred (some [])) → c.wpIn F n P Q { a with defers := { target := .collected D, args := #[] } :: a.defers } W) :
    (Code.rangeFunc g #[p] assign body).wpIn F n P Q a w := by
  refine wpIn_rangeFunc fun fn hfn => ?_
  rw [hro]
  obtain ⟨z, hz⟩ : ∃ z, w.heap.size = z := ⟨_, rfl⟩
  rw [hz] at hlo hI hIx hbody hdone hstop
  obtain ⟨rc, hrc⟩ : ∃ rc : LoopState → Option Code → Loop, rc = fun st pe => { state := st, pending := pe, fn, tmps := a.tmps, params := #[p], assign, body, defers := z } := ⟨_, rfl⟩
  have e0 := run_enterLoop_outer (P := P) (w := w) fn a.tmps #[p] assign body
  rw [hz, show ({ state := .ready, pending := none, fn, tmps := a.tmps, params := #[p], assign, body, defers := z } : Loop) = rc .ready none by rw [hrc]] at e0
  obtain ⟨W1, hW1⟩ : ∃ W1, (w.alloc (.deferred (some []))).alloc (.loop (rc .ready none)) = W1 := ⟨_, rfl⟩
  rw [hW1] at e0
  have hsz : W1.heap.size = z + 2 := by rw [← hW1]; simp [hz]
  have hL : W1.heap[z + 1]? = some (.loop (rc .ready none)) := by
    rw [← hW1, ← hz]; have := World.alloc_heap_new (w.alloc (.deferred (some []))) (.loop (rc .ready none)); rwa [World.size_alloc] at this
  have hD : W1.heap[z]? = some (.deferred (some [])) := by
    rw [← hW1, ← hz]; exact (Below.heap_alloc _ _ _ (by simp)).trans (World.alloc_heap_new w _)
  have hb1 : Below w.heap.size w W1 := by rw [← hW1]; exact ((Below.refl _ w).alloc (Nat.le_refl _) _).alloc (by simp) _
  have hput : ∀ (W : World) (o : Obj), z + 1 < W.heap.size → Below z W (W.putObj (z + 1) o) := fun W o h => (Below.refl z W).grown (grownBy_putObj' W (z + 1) o) (by omega) (fun k e => by cases e; omega)
  have hoth : ∀ (W : World) (o : Obj), (W.putObj (z + 1) o).heap[z]? = W.heap[z]? := fun W o => World.putObj_heap_other (by omega)
  refine ⟨z + 1, [{ target := .collected z, args := #[] }], W1, { target := .fn (.func gf) lb, args := #[.func (.yield (z + 1)) #[] #[]] }, W1, gf, #[.func (.yield (z + 1)) #[] #[]] ++ lb, W1, e0, ?_, ?_, ?_, fun _ => h1, ?_⟩
  · simp only [resolve, hg]
    simp [go_sem]
  · intro f' hf'; simp [Target.leads] at hf'; subst hf'; exact hFg
  · simp [invoke, go_sem, eg]
  · refine (hseq (z + 1) (fun pre W => I pre W ∧ W.heap[z + 1]? = some (.loop (rc .ready none)) ∧ W.heap[z]? = some (.deferred (some [])))
      (fun pre W => ∃ c, Ix c pre W ∧ W.heap[z + 1]? = some (.loop (rc .done (some c))) ∧ W.heap[z]? = some (.deferred (some []))) W1 hb1 ?_ ?_ ⟨hI _ _ _ h0 (hz ▸ hb1), hL, hD⟩ ?_).mono ?_
    · rintro s A B ⟨k1, k2, k3⟩ hab
      exact ⟨hI _ _ _ k1 (hab.mono (by omega)), (hab.block _ (by omega)).trans k2, (hab.block _ (by omega)).trans k3⟩
    · rintro pre x v W ⟨hi, hl, hk⟩ hpre hv
      have hlt : z + 1 < W.heap.size := (Array.getElem?_eq_some_iff.1 hl).1
      have hy := run_yield (P := P) (args := #[v]) hl (by rw [hrc]; rfl)
      have hfold : (((rc .ready none).params.zip #[v]).foldl (fun tmps (t, a) => tmps.setIfInBounds t a) (rc .ready none).tmps) = a.tmps.setIfInBounds p v := by rw [hrc]; simp
      rw [hfold] at hy
      rw [show (rc .ready none).fn = fn by rw [hrc], show (rc .ready none).assign = assign by rw [hrc], show (rc .ready none).body = body by rw [hrc]] at hy
      refine ⟨fn, _, assign, body, hy, roundIn_of_wpIn hfn (hassign _ v W _ ⟨_, run_beginRound hl (by rw [hrc]), ?_⟩)⟩
      have hl2 : (W.putObj (z + 1) (.loop { rc .ready none with state := .busy })).heap[z + 1]? = some (.loop { rc .ready none with state := .busy }) := World.putObj_heap_same hlt
      have hk2 := (hoth W (.loop { rc .ready none with state := .busy })).trans hk
      rw [hsz] at hv
      have hs2 : Stays lo (z + 2) W (W.putObj (z + 1) (.loop { rc .ready none with state := .busy })) := Stays.put W _ (by omega) (by omega)
      refine wpIn_mono (hbody _ pre x v _ W (hI _ _ _ hi (hput _ _ hlt)) hpre hv hs2) ?_
      have fin : ∀ (jump : Option Code) (W3 : World), Stays lo z (W.putObj (z + 1) (.loop { rc .ready none with state := .busy })) W3 →
          (Instr.endRound (z + 1) jump).run P W3 = .ok (.bool jump.isNone) (W3.putObj (z + 1) (.loop (rc (if jump.isNone then .ready else .done) jump))) ∧
          z + 1 < W3.heap.size ∧ (W3.putObj (z + 1) (.loop (rc (if jump.isNone then .ready else .done) jump))).heap[z + 1]? = some (.loop (rc (if jump.isNone then .ready else .done) jump)) ∧
          (W3.putObj (z + 1) (.loop (rc (if jump.isNone then .ready else .done) jump))).heap[z]? = some (.deferred (some [])) := fun jump W3 hs => by
        have hl3 := (hs.2 (z + 1) (.inr (by omega)) (by simpa using hlt)).trans hl2
        have hk3 := (hs.2 z (.inr (Nat.le_refl _)) (by simp; omega)).trans hk2
        have h3 := run_endRound (P := P) jump hl3
        have hlt3 : z + 1 < W3.heap.size := (Array.getElem?_eq_some_iff.1 hl3).1
        refine ⟨by rw [h3, hrc], hlt3, World.putObj_heap_same hlt3, (hoth _ _).trans hk3⟩
      rintro e a3 W3 hp
      cases e with
      | normal =>
        obtain ⟨hk3, hi3⟩ := hp
        obtain ⟨hr, hl3, hl4, hk4⟩ := fin none W3 hk3
        rw [hsz]
        exact ⟨_, _, hr, .inl ⟨rfl, ⟨hI _ _ _ hi3 (hput _ _ hl3), hl4, hk4⟩, (hs2.trans (hk3.mono (by omega))).trans (Stays.put W3 _ (by omega) (by omega))⟩⟩
      | ret =>
        obtain ⟨hk3, hi3⟩ := hp
        obtain ⟨hr, hl3, hl4, hk4⟩ := fin (some .ret) W3 hk3
        rw [hsz]
        exact ⟨_, _, hr, .inr ⟨rfl, ⟨.ret, hIx _ _ _ _ hi3 (hput _ _ hl3), hl4, hk4⟩, (hs2.trans (hk3.mono (by omega))).trans (Stays.put W3 _ (by omega) (by omega))⟩⟩
      | exit id =>
        obtain ⟨hk3, hi3⟩ := hp
        obtain ⟨hr, hl3, hl4, hk4⟩ := fin (some (.exit id)) W3 hk3
        rw [hsz]
        exact ⟨_, _, hr, .inr ⟨rfl, ⟨.exit id, hIx _ _ _ _ hi3 (hput _ _ hl3), hl4, hk4⟩, (hs2.trans (hk3.mono (by omega))).trans (Stays.put W3 _ (by omega) (by omega))⟩⟩
      | goto t =>
        obtain ⟨hk3, hi3⟩ := hp
        obtain ⟨hr, hl3, hl4, hk4⟩ := fin (some (.goto t)) W3 hk3
        rw [hsz]
        exact ⟨_, _, hr, .inr ⟨rfl, ⟨.goto t, hIx _ _ _ _ hi3 (hput _ _ hl3), hl4, hk4⟩, (hs2.trans (hk3.mono (by omega))).trans (Stays.put W3 _ (by omega) (by omega))⟩⟩
      | panic ch => exact hp.elim
      | outgrown => exact hp.elim
    · rintro s A B ⟨c, k1, k2, k3⟩ hab
      exact ⟨c, hIx _ _ _ _ k1 (hab.mono (by omega)), (hab.block _ (by omega)).trans k2, (hab.block _ (by omega)).trans k3⟩
    · rintro e W2 ⟨⟨v, rfl⟩, (⟨hi, hl, hk⟩ | ⟨pre, c, hi, hl, hk⟩)⟩
      · have hlt : z + 1 < W2.heap.size := (Array.getElem?_eq_some_iff.1 hl).1
        have := run_endLoop (P := P) hl (by rw [hrc]; simp)
        rw [show (rc .ready none).pending = none by rw [hrc]] at this
        exact ⟨none, _, this, hdone z _ (Nat.le_refl _) (hI _ _ _ hi (hput _ _ hlt)) ((hoth _ _).trans hk)⟩
      · have hlt : z + 1 < W2.heap.size := (Array.getElem?_eq_some_iff.1 hl).1
        have := run_endLoop (P := P) hl (by rw [hrc]; simp)
        rw [show (rc .done (some c)).pending = some c by rw [hrc]] at this
        exact ⟨some c, _, this, hstop z c pre _ (Nat.le_refl _) (hIx _ _ _ _ hi (hput _ _ hlt)) ((hoth _ _).trans hk)⟩
