import Derived.WalkKit
import Derived.WalkSpells
import Derived.WalkLawsBesides
import Derived.Below
import Derived.Outline
import Derived.Lib.Hide
import Derived.Laws.AppendOwn
import Derived.Maps.AppendAt
import Derived.Laws.OwnMore
import Derived.Deep.Draws
import Derived.Laws.CopyOwn
import Derived.Laws.MakeOwn
import Derived.Deep.QuietTactic
import Derived.Deep.RegionLaw
import Derived.Deep.RegionHeld3
import Derived.BigQuiet
import Derived.Laws.AppendOwnNone
/-!
  Readings of data in memory: a kind of elements 'Ty', rows of cells, slices. A reading bears a set 'ok' of block numbers that it leans on: it stays while those blocks stay.
-/
namespace Go.Proofs.Ytidfogcilegloaa
open Go.RowKit

/-- A kind of data: how many cells a value takes, and when a row of cells reads as it, leaning on the blocks of 'ok' alone. -/
structure Ty (α : Type) where
  sz : Nat
  K : World → (Nat → Prop) → α → List Value → Prop
  len : ∀ {w : World} {ok : Nat → Prop} {x : α} {cs : List Value}, K w ok x cs → cs.length = sz
  mono : ∀ {w : World} {ok ok' : Nat → Prop} {x : α} {cs : List Value}, K w ok x cs → (∀ b, ok b → ok' b) → K w ok' x cs
  inb : ∀ {w : World} {ok : Nat → Prop} {x : α} {cs : List Value}, K w ok x cs → K w (fun b => ok b ∧ b < w.heap.size) x cs
  step : ∀ {w w' : World} {ok : Nat → Prop} {x : α} {cs : List Value}, K w ok x cs → (∀ b, ok b → w'.heap[b]? = w.heap[b]?) → K w' ok x cs
  one : ∀ {w : World} {ok : Nat → Prop} {x : α} {cs : List Value}, K w ok x cs → ∀ u ∈ cs, u.oneCell' = true

/-- A kind whose cells lead nowhere. -/
def Ty.flat {α : Type} (sz : Nat) (enc : α → List Value) (h : ∀ x, (enc x).length = sz) (h1 : ∀ x, ∀ u ∈ enc x, u.oneCell' = true) : Ty α where
  sz := sz
  K := fun _ _ x cs => cs = enc x
  len := fun {_ _ x _} e => by rw [e]; exact h x
  mono := fun e _ => e
  inb := fun e => e
  step := fun e _ => e
  one := fun {_ _ x _} e => by rw [e]; exact h1 x

/-- Elements in a row. -/
def Cells {α : Type} (t : Ty α) (w : World) (ok : Nat → Prop) : List α → List Value → Prop
  | [], cs => cs = []
  | x :: l, cs => ∃ c d, cs = c ++ d ∧ t.K w ok x c ∧ Cells t w ok l d

section
variable {α : Type} {t : Ty α} {w w' : World} {ok ok' : Nat → Prop}

theorem Cells.len : ∀ {l : List α} {cs : List Value}, Cells t w ok l cs → cs.length = l.length * t.sz
  | [], _, h => by rw [show _ = [] from h]; simp
  | x :: l, _, ⟨c, d, e, hk, hd⟩ => by rw [e, List.length_append, t.len hk, Cells.len hd, List.length_cons, Nat.succ_mul]; omega
theorem Cells.mono : ∀ {l : List α} {cs : List Value}, Cells t w ok l cs → (∀ b, ok b → ok' b) → Cells t w ok' l cs
  | [], _, h, _ => h
  | _ :: _, _, ⟨c, d, e, hk, hd⟩, hm => ⟨c, d, e, t.mono hk hm, Cells.mono hd hm⟩
theorem Cells.inb : ∀ {l : List α} {cs : List Value}, Cells t w ok l cs → Cells t w (fun b => ok b ∧ b < w.heap.size) l cs
  | [], _, h => h
  | _ :: _, _, ⟨c, d, e, hk, hd⟩ => ⟨c, d, e, t.inb hk, Cells.inb hd⟩
theorem Cells.step : ∀ {l : List α} {cs : List Value}, Cells t w ok l cs → (∀ b, ok b → w'.heap[b]? = w.heap[b]?) → Cells t w' ok l cs
  | [], _, h, _ => h
  | _ :: _, _, ⟨c, d, e, hk, hd⟩, hm => ⟨c, d, e, t.step hk hm, Cells.step hd hm⟩
theorem Cells.append : ∀ {l m : List α} {cs ds : List Value}, Cells t w ok l cs → Cells t w ok m ds → Cells t w ok (l ++ m) (cs ++ ds)
  | [], _, cs, _, h, k => by rw [show cs = [] from h]; exact k
  | _ :: _, _, _, _, ⟨c, d, e, hk, hd⟩, k => ⟨c, d ++ _, by rw [e, List.append_assoc], hk, Cells.append hd k⟩
theorem Cells.one {x : α} {c : List Value} (h : t.K w ok x c) : Cells t w ok [x] c := ⟨c, [], by simp, h, rfl⟩
theorem Cells.split : ∀ {l : List α} (m : List α) {cs : List Value}, Cells t w ok (l ++ m) cs → ∃ c d, cs = c ++ d ∧ Cells t w ok l c ∧ Cells t w ok m d
  | [], _, cs, h => ⟨[], cs, rfl, rfl, h⟩
  | _ :: l, m, _, ⟨c, d, e, hk, hd⟩ => by
    obtain ⟨c', d', e', h1, h2⟩ := Cells.split (l := l) m hd
    exact ⟨c ++ c', d', by rw [e, e', List.append_assoc], ⟨c, c', rfl, hk, h1⟩, h2⟩
theorem Cells.one' : ∀ {l : List α} {cs : List Value}, Cells t w ok l cs → ∀ u ∈ cs, u.oneCell' = true
  | [], _, h, u, hu => by rw [show _ = [] from h] at hu; cases hu
  | _ :: _, _, ⟨c, d, e, hk, hd⟩, u, hu => by
    rw [e, List.mem_append] at hu
    exact hu.elim (t.one hk u) (Cells.one' hd u)
/-- The i-th element's cells stand from i * sz on. -/
theorem Cells.at {l : List α} {cs : List Value} {i : Nat} {x : α} (h : Cells t w ok l cs) (hi : l[i]? = some x) : ∃ c, t.K w ok x c ∧ ∀ j u, c[j]? = some u → cs[i * t.sz + j]? = some u := by
  induction l generalizing i cs with
  | nil => simp at hi
  | cons y l ih =>
    obtain ⟨c, d, rfl, hk, hd⟩ := h
    cases i with
    | zero =>
      simp at hi; subst hi
      refine ⟨c, hk, fun j u hj => ?_⟩
      rw [Nat.zero_mul, Nat.zero_add, List.getElem?_append_left (by have := List.getElem?_eq_some_iff.1 hj; exact this.1)]
      exact hj
    | succ i =>
      obtain ⟨e, he, hc⟩ := ih hd (by simpa using hi)
      refine ⟨e, he, fun j u hj => ?_⟩
      have hl := t.len hk
      rw [Nat.succ_mul, List.getElem?_append_right (by omega), show i * t.sz + t.sz + j - c.length = i * t.sz + j by omega]
      exact hc j u hj
end

/-- Cells in memory: from A on there stand cs. -/
def At (w : World) (ok : Nat → Prop) (A : Option Addr) (cs : List Value) : Prop :=
  cs = [] ∨ ∃ b off, A = some ⟨b, off, none⟩ ∧ ok b ∧ ∀ j u, cs[j]? = some u → w.cell? ⟨b, off + j, none⟩ = some u

/-- A slice's value reads as a list. -/
def Sl {α : Type} (t : Ty α) (w : World) (ok : Nat → Prop) (v : Value) (l : List α) : Prop :=
  ∃ A cap cs, v = .slice A l.length cap ∧ l.length ≤ cap ∧ (cap ≤ 9223372036854775807 ∧ (A = none → cap = 0)) ∧ Cells t w ok l cs ∧ At w ok A cs

section
variable {α : Type} {t : Ty α} {w w' : World} {ok ok' : Nat → Prop} {A : Option Addr} {cs : List Value} {v : Value} {l : List α} {n cap : Nat}
theorem At.mono (h : At w ok A cs) (hm : ∀ b, ok b → ok' b) : At w ok' A cs := h.imp id fun ⟨b, off, e, hb, hc⟩ => ⟨b, off, e, hm b hb, hc⟩
theorem At.step (h : At w ok A cs) (hm : ∀ b, ok b → w'.heap[b]? = w.heap[b]?) : At w' ok A cs :=
  h.imp id fun ⟨b, off, e, hb, hc⟩ => ⟨b, off, e, hb, fun j u hj => (World.cell?_of_block (w := w) (hm b hb)).trans (hc j u hj)⟩
theorem At.inb (h : At w ok A cs) : At w (fun b => ok b ∧ b < w.heap.size) A cs := by
  rcases h with h | ⟨b, off, e, hb, hc⟩
  · exact .inl h
  · cases cs with
    | nil => exact .inl rfl
    | cons u cs => exact .inr ⟨b, off, e, ⟨hb, World.block_lt_of_cell? w ⟨b, off + 0, none⟩ (hc 0 u rfl)⟩, hc⟩
theorem Sl.mono (h : Sl t w ok v l) (hm : ∀ b, ok b → ok' b) : Sl t w ok' v l := by
  obtain ⟨A, cap, cs, e, h1, h2, h3, h4⟩ := h
  exact ⟨A, cap, cs, e, h1, h2, h3.mono hm, h4.mono hm⟩
theorem Sl.inb (h : Sl t w ok v l) : Sl t w (fun b => ok b ∧ b < w.heap.size) v l := by
  obtain ⟨A, cap, cs, e, h1, h2, h3, h4⟩ := h
  exact ⟨A, cap, cs, e, h1, h2, h3.inb, h4.inb⟩
theorem Sl.step (h : Sl t w ok v l) (hm : ∀ b, ok b → w'.heap[b]? = w.heap[b]?) : Sl t w' ok v l := by
  obtain ⟨A, cap, cs, e, h1, h2, h3, h4⟩ := h
  exact ⟨A, cap, cs, e, h1, h2, h3.step hm, h4.step hm⟩
theorem Sl.below (h : Sl t w ok v l) (hb : Below w.heap.size w w') : Sl t w' ok v l :=
  (h.inb.step (fun b hk => hb.block b hk.2)).mono fun _ hk => hk.1
theorem Sl.nil (t : Ty α) (w : World) (ok : Nat → Prop) : Sl t w ok (.slice none 0 0) [] := ⟨none, 0, [], rfl, Nat.le_refl _, ⟨by omega, fun _ => rfl⟩, rfl, .inl rfl⟩
theorem Sl.form (h : Sl t w ok v l) : ∃ A cap, v = .slice A l.length cap ∧ l.length ≤ cap ∧ cap ≤ 9223372036854775807 ∧ (A = none → cap = 0) := by
  obtain ⟨A, cap, cs, e, h1, h2, _⟩ := h
  exact ⟨A, cap, e, h1, h2.1, h2.2⟩
theorem Sl.length (h : Sl t w ok (.slice A n cap) l) : l.length = n ∧ n ≤ cap ∧ cap ≤ 9223372036854775807 := by
  obtain ⟨A', cap', cs, e, h1, h2, _⟩ := h
  injection e with e1 e2 e3
  subst e1 e2 e3
  exact ⟨rfl, h1, h2.1⟩
theorem Sl.at (h : Sl t w ok (.slice A n cap) l) {i : Nat} {x : α} (hs : 0 < t.sz) (hi : l[i]? = some x) :
    ∃ b off c, A = some ⟨b, off, none⟩ ∧ ok b ∧ t.K w ok x c ∧ ∀ j u, c[j]? = some u → w.cell? ⟨b, off + i * t.sz + j, none⟩ = some u := by
  obtain ⟨A', cap', cs, e, h1, h2, h3, h4⟩ := h
  injection e with e1 e2 e3
  subst e1 e2 e3
  obtain ⟨c, hk, hc⟩ := h3.at hi
  have hl := t.len hk
  rcases h4 with rfl | ⟨b, off, e, hb, hA⟩
  · exfalso
    have hz : 0 < c.length := by omega
    have := hc 0 c[0] (List.getElem?_eq_getElem hz)
    simp at this
  · exact ⟨b, off, c, e, hb, hk, fun j u hj => by rw [Nat.add_assoc]; exact hA _ _ (hc j u hj)⟩
end

section
variable {α : Type} {t : Ty α} {w w' : World} {ok ok' : Nat → Prop} {A : Option Addr} {l : List α} {n cap : Nat}
theorem Cells.take {cs : List Value} (h : Cells t w ok l cs) (k : Nat) : ∃ c d, cs = c ++ d ∧ Cells t w ok (l.take k) c ∧ Cells t w ok (l.drop k) d := by
  have h' := h
  rw [← List.take_append_drop k l] at h'
  exact Cells.split _ h'
theorem Sl.take (h : Sl t w ok (.slice A n cap) l) {k : Nat} (hk : k ≤ n) : Sl t w ok (.slice A k cap) (l.take k) := by
  obtain ⟨A', cap', cs, e, h1, h2, h3, h4⟩ := h
  injection e with e1 e2 e3
  subst e1 e2 e3
  obtain ⟨c, d, rfl, k1, k2⟩ := h3.take k
  have hlen : (l.take k).length = k := by simp; omega
  refine ⟨A, cap, c, by rw [hlen], by omega, h2, k1, ?_⟩
  rcases h4 with h4 | ⟨b, off, e, hb, hc⟩
  · exact .inl (List.append_eq_nil_iff.1 h4).1
  · exact .inr ⟨b, off, e, hb, fun j u hj => hc j u (by rw [List.getElem?_append_left (List.getElem?_eq_some_iff.1 hj).1]; exact hj)⟩
theorem Sl.drop {b off : Nat} (h : Sl t w ok (.slice (some ⟨b, off, none⟩) n cap) l) {k : Nat} (hk : k ≤ n) : Sl t w ok (.slice (some ⟨b, off + k * t.sz, none⟩) (n - k) (cap - k)) (l.drop k) := by
  obtain ⟨A', cap', cs, e, h1, h2, h3, h4⟩ := h
  injection e with e1 e2 e3
  subst e1 e2 e3
  obtain ⟨c, d, rfl, k1, k2⟩ := h3.take k
  have hlen : (l.drop k).length = l.length - k := by simp
  have hc1 := k1.len
  rw [List.length_take, Nat.min_eq_left hk] at hc1
  refine ⟨_, _, d, by rw [hlen], by omega, ⟨by omega, fun h => by cases h⟩, k2, ?_⟩
  rcases h4 with h4 | ⟨b', off', e, hb, hc⟩
  · exact .inl (List.append_eq_nil_iff.1 h4).2
  · injection e with e
    injection e with e1 e2 e3
    subst e1 e2
    exact .inr ⟨b, _, rfl, hb, fun j u hj => by
      have := hc (k * t.sz + j) u (by rw [List.getElem?_append_right (by omega), show k * t.sz + j - c.length = j by omega]; exact hj)
      rwa [show off + k * t.sz + j = off + (k * t.sz + j) by omega]⟩
/-- A slice without anything, wherever it lies. -/
theorem Sl.none (t : Ty α) (w : World) (ok : Nat → Prop) (A : Option Addr) (cap : Nat) (hc : cap ≤ 9223372036854775807) (hA : A = none → cap = 0) : Sl t w ok (.slice A 0 cap) [] := ⟨A, cap, [], rfl, Nat.zero_le _, ⟨hc, hA⟩, rfl, .inl rfl⟩
end

/-! ### A block known whole -/
/-- Block g holds just these cells. -/
def Blk (w : World) (g : Nat) (cs : Array Value) (e : TypeId) : Prop := w.heap[g]? = some (.cells cs e (0, 0))
section
variable {w w' : World} {g : Nat} {cs : Array Value} {e : TypeId}
theorem alloc_heap (w : World) (o : Obj) (k : Nat) : (w.alloc o).heap[k]? = if k = w.heap.size then some o else w.heap[k]? := by
  show (w.heap.push o)[k]? = _
  rw [Array.getElem?_push]
theorem drew_heap (w : World) : w.drew.heap = w.heap := rfl
theorem Blk.lt (h : Blk w g cs e) : g < w.heap.size := (Array.getElem?_eq_some_iff.1 h).1
theorem Blk.cell (h : Blk w g cs e) (j : Nat) : w.cell? ⟨g, j, none⟩ = cs[j]? := by simp [World.cell?, show w.heap[g]? = _ from h]
theorem Blk.frozen (h : Blk w g cs e) (j : Nat) : w.frozen? ⟨g, j, none⟩ = false := by simp [World.frozen?, show w.heap[g]? = _ from h]
theorem Blk.three {a b c : Value} (h : Blk w g #[a, b, c] e) : w.cell? ⟨g, 0, none⟩ = some a ∧ w.cell? ⟨g, 1, none⟩ = some b ∧ w.cell? ⟨g, 2, none⟩ = some c := ⟨h.cell 0, h.cell 1, h.cell 2⟩
theorem Blk.new (w : World) (cs : Array Value) (e : TypeId) : Blk (w.alloc (.cells cs e)) w.heap.size cs e := heap_alloc_new w _
theorem Blk.alloc (h : Blk w g cs e) (o : Obj) : Blk (w.alloc o) g cs e := (Below.heap_alloc w o g h.lt).trans h
theorem Blk.below (h : Blk w g cs e) {B : Nat} (hb : Below B w w') (hg : g < B) : Blk w' g cs e := (hb.block g hg).trans h
theorem Blk.drewN (h : Blk w g cs e) (n : Nat) : Blk (w.drewN n) g cs e := h
theorem Blk.far (h : Blk w g cs e) {p : Addr} (hp : g ≠ p.block) (u : Value) : Blk (w.setCell p u) g cs e := (Below.heap_setCell w p u g hp).trans h
theorem Blk.set (h : Blk w g cs e) (j : Nat) (u : Value) : Blk (w.setCell ⟨g, j, none⟩ u) g (cs.setIfInBounds j u) e := by
  simp [Blk, World.setCell, Array.getElem?_modify, show w.heap[g]? = _ from h]
end

/-! ### A slice of the call's own, that grows -/
/-- v is nil, or a row of the call's own from block 'base' on, that reads as l; its elements lean on blocks of 'ok', none of which is the row itself. -/
def Own {α : Type} (t : Ty α) (w : World) (base : Nat) (e : TypeId) (ok : Nat → Prop) (v : Value) (l : List α) : Prop :=
  ∃ cs, w.ownsRow base e t.sz v l.length cs ∧ Cells t w (fun b => ok b ∧ v.ownBlock ≠ some b) l cs

section
variable {α : Type} {t : Ty α} {w w' : World} {ok ok' : Nat → Prop} {v : Value} {l : List α} {base e : Nat}
theorem Own.nil (t : Ty α) (w : World) (base : Nat) (e : TypeId) (ok : Nat → Prop) : Own t w base e ok (.slice none 0 0) [] := ⟨[], World.ownsRow_nil w base e t.sz, rfl⟩
theorem Own.empty (t : Ty α) (w : World) {base : Nat} (e : TypeId) (ok : Nat → Prop) (hb : base ≤ w.heap.size) : Own t (w.alloc (.cells #[] e)) base e ok (.slice (some ⟨w.heap.size, 0, none⟩) 0 0) [] :=
  ⟨[], World.ownsRow_made w #[] 0 hb (by simp) (by simp), rfl⟩
theorem Own.ofBlk (t : Ty α) {w : World} {base : Nat} {e : TypeId} (ok : Nat → Prop) {g : Nat} (h : Blk w g #[] e) (hb : base ≤ g) : Own t w base e ok (.slice (some ⟨g, 0, none⟩) 0 0) [] :=
  ⟨[], ⟨by simp, .inr ⟨g, 0, #[], rfl, hb, h, Nat.le_refl _, by simp [maxLen], by simp, by simp⟩⟩, rfl⟩
theorem Own.lo (h : Own t w base e ok v l) {b : Nat} (hb : v.ownBlock = some b) : base ≤ b ∧ b < w.heap.size := by
  obtain ⟨cs, h1, _⟩ := h
  exact h1.lt b hb
theorem Own.sl (h : Own t w base e ok v l) : Sl t w (fun b => ok b ∨ (base ≤ b ∧ b < w.heap.size)) v l := by
  obtain ⟨cs, h1, h2⟩ := h
  have hlen := h2.len
  have hcells := fun g hg => World.ownsRow.cells h1 (g := g) hg
  have hlt := h1.lt
  rcases h1.2 with ⟨rfl, h0⟩ | ⟨g, cap, cur, rfl, hb, hh, hn, hc, _⟩
  · obtain rfl := List.eq_nil_of_length_eq_zero h0
    obtain rfl : cs = [] := h2
    exact Sl.nil _ _ _
  · have hl := hlt g rfl
    refine ⟨_, cap, cs, rfl, hn, ⟨by simpa [maxLen] using hc, fun h => by cases h⟩, h2.mono fun b hb => .inl hb.1, .inr ⟨g, 0, rfl, .inr hl, fun j u hj => ?_⟩⟩
    have := hcells g rfl j u hj
    rwa [show (⟨g, 0, none⟩ : Addr).add j = ⟨g, 0 + j, none⟩ by unfold Addr.add; split <;> simp_all] at this
theorem Own.mono (h : Own t w base e ok v l) (hm : ∀ b, ok b → ok' b) : Own t w base e ok' v l := by
  obtain ⟨cs, h1, h2⟩ := h
  exact ⟨cs, h1, h2.mono fun b hb => ⟨hm b hb.1, hb.2⟩⟩
/-- All but one row stays: it isn't this one, and no element leans on it. -/
theorem Own.grown (h : Own t w base e ok v l) {row : Option Nat} (hg : w.grownBy w' row) (h1 : ∀ b, v.ownBlock = some b → row ≠ some b) (h2 : ∀ b, ok b → row ≠ some b) : Own t w' base e ok v l := by
  obtain ⟨cs, k1, k2⟩ := h
  refine ⟨cs, k1.kept hg ?_, (k2.inb.step fun b hb => hg.block b hb.2 fun e => h2 b hb.1.1 e.symm).mono fun b hb => hb.1⟩
  cases hv : v.ownBlock with
  | none => exact .inl rfl
  | some b => exact .inr fun e => h1 b hv e.symm
theorem Own.below (h : Own t w base e ok v l) (hb : Below w.heap.size w w') : Own t w' base e ok v l :=
  h.grown (row := none) ⟨hb.os, hb.tape, hb.output, hb.size, fun k hk _ => hb.block k hk⟩ (fun _ _ h => by cases h) (fun _ _ h => by cases h)
theorem Own.alloc (h : Own t w base e ok v l) (o : Obj) : Own t (w.alloc o) base e ok v l := h.below ((Below.refl _ _).alloc (Nat.le_refl _) o)
theorem Own.form (h : Own t w base e ok v l) : ∃ A cap, v = .slice A l.length cap ∧ l.length ≤ cap ∧ cap ≤ 9223372036854775807 ∧ (A = none → cap = 0) := h.sl.form
end

section
variable {α : Type} {t : Ty α} {P : Program} {w0 W : World} {ops : Array Oper} {rest : List Oper} {o : Oper} {a : Act} {Q : Exit → Act → World → Prop} {ok : Nat → Prop} {l : List α}

/-- A slice that reads as a list, its elements leaning on okE; its row may lie anywhere. -/
def SlX {α : Type} (t : Ty α) (w : World) (okE : Nat → Prop) (v : Value) (l : List α) : Prop :=
  ∃ A cap cs, v = .slice A l.length cap ∧ l.length ≤ cap ∧ (cap ≤ 9223372036854775807 ∧ (A = none → cap = 0)) ∧ Cells t w okE l cs ∧ At w (fun _ => True) A cs
theorem Sl.x {v : Value} (h : Sl t W ok v l) : SlX t W ok v l := by
  obtain ⟨A, cap, cs, e, h1, h2, h3, h4⟩ := h
  exact ⟨A, cap, cs, e, h1, h2, h3, h4.mono fun _ _ => trivial⟩

/-- One element in a block of its own, as a slice. -/
theorem SlX.one {okE : Nat → Prop} {g : Nat} {cs : List Value} {e : TypeId} {y : α} (h : Blk W g cs.toArray e) (hK : t.K W okE y cs) : SlX t W okE (.slice (some ⟨g, 0, none⟩) 1 1) [y] :=
  ⟨_, 1, cs, rfl, Nat.le_refl _, ⟨by omega, fun h => by cases h⟩, Cells.one hK, .inr ⟨g, 0, rfl, trivial, fun j u hj => by rw [h.cell (0 + j)]; simpa using hj⟩⟩
theorem below_own {base : Nat} {w1 : World} {v : Value} (hB : Below base w0 W) (hbase : base ≤ W.heap.size) (hg : W.grownBy w1 v.ownBlock) (hv : ∀ b, v.ownBlock = some b → base ≤ b) : Below base w0 w1 :=
  hB.grown hg hbase hv

/-- append(s, m...): onto a row of the call's own, a list that reads as m. -/
theorem wp_appSl {K : Act → World → Prop} (base : Nat) (s x : Operand) (T e : TypeId) (z : Value) (bytes : Nat)
    (ho : o.op = .call { callee := .builtin .append, args := #[s, x], argTypes := #[T, T] })
    (ht : P.underlying T = some (.slice e)) (hinfo : (P.info? e).map (fun i => (i.zero, i.size, i.bytes)) = some (some z, t.sz, bytes)) (hzs : z.cells.size = t.sz) (hsz : 0 < t.sz) (hb0 : 0 < bytes)
    {v u : Value} (hs : a.eval s = v) (hx : a.eval x = u) {m : List α} (HO : Own t W base e ok v l) (hu : SlX t W (fun b => ok b ∧ v.ownBlock ≠ some b) u m)
    (hB : Below base w0 W) (hbase : base ≤ W.heap.size) (hl : (l.length + m.length) * bytes ≤ 140737488355328)
    (h : ∀ v1 w1, Own t w1 base e ok v1 (l ++ m) → Below base w0 w1 → W.grownBy w1 v.ownBlock → (v1.ownBlock = v.ownBlock ∨ v1.ownBlock = some W.heap.size) → K (a.put o.dst v1) w1) : o.wp P a W K Q := by
  obtain ⟨i0, hi, hzz⟩ := Option.map_eq_some_iff.1 hinfo
  simp only [Prod.mk.injEq] at hzz
  obtain ⟨hz0, hz1, hz2⟩ := hzz
  have hO := HO
  obtain ⟨cs, h1, h2⟩ := HO
  have hlt := h1.lt
  obtain ⟨A, cap, ds, rfl, hcap, ⟨hcm, hnone⟩, hc, hat⟩ := hu
  cases A with
  | none =>
    obtain rfl := hnone rfl
    obtain rfl := List.eq_nil_of_length_eq_zero (Nat.le_zero.1 hcap)
    have hrun := run_append_owned_none (P := P) (w := W) base T o.type e i0 t.sz ht hi v l.length cs h1
    unfold Oper.wp
    simp [execOp, ho, resolve, invoke, builtin, hs, hx, hrun, Result.andThen]
    exact (h v W (by rw [List.append_nil]; exact hO) hB (by exact ⟨rfl, rfl, rfl, Nat.le_refl _, fun _ _ _ => rfl⟩) (.inl rfl))
  | some ad =>
    have hlen : l.length + m.length ≤ 140737488355328 := Nat.le_trans (Nat.le_mul_of_pos_right _ hb0) hl
    have hnews : ∀ j u, ds[j]? = some u → W.cell? (ad.add j) = some u := by
      rcases hat with rfl | ⟨b, off, e1, _, hcell⟩
      · intro j u hj; simp at hj
      · injection e1 with e1
        subst e1
        intro j u hj
        have := hcell j u hj
        rwa [show (⟨b, off, none⟩ : Addr).add j = ⟨b, off + j, none⟩ by unfold Addr.add; split <;> simp_all]
    obtain ⟨v1, w1, hr, hown, hg, _, hat1⟩ := run_append_own_at (P := P) W base T o.type e i0 z t.sz bytes ht hi hz0 hz1 hz2 hzs hsz v l.length cs h1 ad m.length cap ds hc.len hnews hc.one' (by simp only [maxLen]; omega) hl hbase
    unfold Oper.wp execOp
    simp only [ho, resolve, invoke, builtin, Sem.run_bind, Sem.run_pure, Result.andThen_ok, List.map_toArray, List.map_cons, List.map_nil, hs, hx, hr]
    refine h v1 w1 ⟨cs ++ ds, by rw [List.length_append]; exact hown, ?_⟩ (below_own hB hbase hg fun b hb => (hlt b hb).1) hg hat1
    have hap : Cells t W (fun b => ok b ∧ v.ownBlock ≠ some b) (l ++ m) (cs ++ ds) := h2.append hc
    refine (hap.inb.step fun b hb => hg.block b hb.2 fun e => hb.1.2 e.symm).mono fun b hb => ⟨hb.1.1, fun e => ?_⟩
    rcases hat1 with h3 | h3
    · exact hb.1.2 (h3.symm.trans e)
    · rw [h3] at e
      injection e with e
      omega

theorem wpList_appSl (base : Nat) (hgd : o.guard = none) (s x : Operand) (T e : TypeId) (z : Value) (bytes : Nat)
    (ho : o.op = .call { callee := .builtin .append, args := #[s, x], argTypes := #[T, T] })
    (ht : P.underlying T = some (.slice e)) (hinfo : (P.info? e).map (fun i => (i.zero, i.size, i.bytes)) = some (some z, t.sz, bytes)) (hzs : z.cells.size = t.sz) (hsz : 0 < t.sz) (hb0 : 0 < bytes)
    {v u : Value} (hs : a.eval s = v) (hx : a.eval x = u) {m : List α} (HO : Own t W base e ok v l) (hu : SlX t W (fun b => ok b ∧ v.ownBlock ≠ some b) u m)
    (hB : Below base w0 W) (hbase : base ≤ W.heap.size) (hl : (l.length + m.length) * bytes ≤ 140737488355328)
    (h : ∀ v1 w1, Own t w1 base e ok v1 (l ++ m) → Below base w0 w1 → W.grownBy w1 v.ownBlock → (v1.ownBlock = v.ownBlock ∨ v1.ownBlock = some W.heap.size) → wpList P ops Q rest (a.put o.dst v1) w1) :
    wpList P ops Q (o :: rest) a W :=
  wpList_plain hgd fun _ hK => wp_appSl base s x T e z bytes ho ht hinfo hzs hsz hb0 hs hx HO hu hB hbase hl fun v1 w1 a1 a2 a3 a4 => hK _ _ (h v1 w1 a1 a2 a3 a4)
/-- The same as a step of a region of open order. -/
theorem step_appSl {K : Act → World → Prop} {E : Prop} (base : Nat) (hgd : o.guard = none) (s x : Operand) (T e : TypeId) (z : Value) (bytes : Nat)
    (ho : o.op = .call { callee := .builtin .append, args := #[s, x], argTypes := #[T, T] })
    (ht : P.underlying T = some (.slice e)) (hinfo : (P.info? e).map (fun i => (i.zero, i.size, i.bytes)) = some (some z, t.sz, bytes)) (hzs : z.cells.size = t.sz) (hsz : 0 < t.sz) (hb0 : 0 < bytes)
    {v u : Value} (hs : a.eval s = v) (hx : a.eval x = u) {m : List α} (HO : Own t W base e ok v l) (hu : SlX t W (fun b => ok b ∧ v.ownBlock ≠ some b) u m)
    (hB : Below base w0 W) (hbase : base ≤ W.heap.size) (hl : (l.length + m.length) * bytes ≤ 140737488355328)
    (h : ∀ v1 w1, Own t w1 base e ok v1 (l ++ m) → Below base w0 w1 → W.grownBy w1 v.ownBlock → (v1.ownBlock = v.ownBlock ∨ v1.ownBlock = some W.heap.size) → K (a.put o.dst v1) w1) :
    if Region.wanted o (yielded ops a.tmps) = true then Oper.wp P o a W K Q else E := by
  have hw : Region.wanted o (yielded ops a.tmps) = true := by simp [Region.wanted, hgd]
  rw [if_pos hw]
  exact wp_appSl base s x T e z bytes ho ht hinfo hzs hsz hb0 hs hx HO hu hB hbase hl h

/-- append(s, x): one element, whose cells have just been laid in a block of their own. -/
theorem wpList_app1 (base : Nat) (hgd : o.guard = none) (s x : Operand) (T e : TypeId) (z : Value) (bytes : Nat)
    (ho : o.op = .call { callee := .builtin .append, args := #[s, x], argTypes := #[T, T] })
    (ht : P.underlying T = some (.slice e)) (hinfo : (P.info? e).map (fun i => (i.zero, i.size, i.bytes)) = some (some z, t.sz, bytes)) (hzs : z.cells.size = t.sz) (hsz : 0 < t.sz) (hb0 : 0 < bytes)
    {v : Value} (hs : a.eval s = v) {cs : List Value} {g : Nat} (hgz : W.heap.size = g) (hx : a.eval x = .slice (some ⟨g, 0, none⟩) 1 1) {y : α} (HO : Own t W base e ok v l) (hK : t.K W (fun b => ok b ∧ v.ownBlock ≠ some b) y cs)
    (hB : Below base w0 W) (hbase : base ≤ W.heap.size) (hl : (l.length + 1) * bytes ≤ 140737488355328)
    (h : ∀ v1 w1, Own t w1 base e ok v1 (l ++ [y]) → Below base w0 w1 → W.grownBy w1 v.ownBlock → (v1.ownBlock = v.ownBlock ∨ (∃ b, v1.ownBlock = some b ∧ W.heap.size ≤ b)) → wpList P ops Q rest (a.put o.dst v1) w1) :
    wpList P ops Q (o :: rest) a (W.alloc (.cells cs.toArray e)) := by
  subst hgz
  have hbl : Below W.heap.size W (W.alloc (.cells cs.toArray e)) := (Below.refl _ _).alloc (Nat.le_refl _) _
  have hK' : Cells t (W.alloc (.cells cs.toArray e)) (fun b => ok b ∧ v.ownBlock ≠ some b) [y] cs :=
    Cells.one ((t.step (t.inb hK) fun b hb => hbl.block b hb.2) |> fun k => t.mono k fun b hb => hb.1)
  refine wpList_appSl (t := t) (ok := ok) (m := [y]) (u := .slice (some ⟨W.heap.size, 0, none⟩) 1 1) base hgd s x T e z bytes ho ht hinfo hzs hsz hb0 hs hx (HO.alloc _)
    ⟨_, 1, cs, rfl, Nat.le_refl _, ⟨by omega, fun h => by cases h⟩, hK', .inr ⟨W.heap.size, 0, rfl, trivial, fun j u hj => ?_⟩⟩ (hB.alloc hbase _) (by simp; omega) (by simpa using hl) ?_
  · rw [cell_of_row (W.alloc (.cells cs.toArray e)) W.heap.size (0 + j) cs.toArray e (0, 0) (heap_alloc_new W _)]
    simpa using hj
  · intro v1 w1 hown hB1 hg hat
    refine h v1 w1 hown hB1 (World.grownBy.trans (World.grownBy_alloc W _ _) hg) ?_
    · rcases hat with h1 | h1
      · exact .inl h1
      · exact .inr ⟨_, h1, by simp⟩
end

/-! ### copy, make -/
theorem run_copy_rowN {P : Program} (w : World) (dT sT ty elem : TypeId) (sz : Nat) (g o dLen dCap : Nat) (a : Addr) (sLen sCap : Nat) (cur : Array Value) (t : TypeId) (cs : List Value)
    (hu : P.underlying dT = some (.slice elem)) (hs : (P.info? elem).map (·.size) = some sz)
    (hg : w.heap[g]? = some (.cells cur t (0, 0))) (hn : cs.length = Nat.min sLen dLen * sz)
    (hsrc : ∀ j v, cs[j]? = some v → w.cell? (a.add j) = some v) (hfit : o + cs.length ≤ cur.size) (h1 : ∀ v ∈ cs, v.oneCell' = true) :
    (Builtin.copy_ #[dT, sT] ty #[.slice (some ⟨g, o, none⟩) dLen dCap, .slice (some a) sLen sCap]).run P w =
      .ok (goInt (Nat.min sLen dLen)) (w.setRow g (cur.toList.take o ++ cs ++ cur.toList.drop (o + cs.length)).toArray) := by
  have hl := run_loadCells_list (P := P) w a cs hsrc
  have hst := run_storeCells_at P g o t cs 0 cur w hg (by simpa using hfit) h1
  cases hq : P.info? elem with
  | none => simp [hq] at hs
  | some i =>
    have hi : i.size = sz := by simpa [hq] using hs
    simp [Builtin.copy_, run_underlying hu, Builtin.lenOf, Builtin.firstCells, sizeOf, typeInfo, hq, hi, ← hn, hl, hst]

section
variable {α : Type} {t : Ty α} {P : Program} {w0 W : World} {ops : Array Oper} {rest : List Oper} {o : Oper} {a : Act} {Q : Exit → Act → World → Prop} {ok : Nat → Prop} {l m : List α}
/-- copy(d, s): a whole row of the call's own is written over by a list of its length. -/
theorem wpList_copySl (base : Nat) (hgd : o.guard = none) (d s : Operand) (T T' e : TypeId) (ho : o.op = .call { callee := .builtin .copy, args := #[d, s], argTypes := #[T, T'] })
    (hu : P.underlying T = some (.slice e)) (hsz : (P.info? e).map (·.size) = some t.sz) {v u : Value} (hd : a.eval d = v) (hs : a.eval s = u)
    (HO : Own t W base e ok v l) (hm : SlX t W (fun b => ok b ∧ v.ownBlock ≠ some b) u m) (hlen : l.length = m.length) (hB : Below base w0 W)
    (h : ∀ w1, Own t w1 base e ok v m → Below base w0 w1 → W.grownBy w1 v.ownBlock → wpList P ops Q rest (a.put o.dst (goInt m.length)) w1) : wpList P ops Q (o :: rest) a W := by
  obtain ⟨A, cap, ds, rfl, hcap, ⟨hcm, hnone⟩, hc, hat⟩ := hm
  have hO := HO
  obtain ⟨cs, k1, k2⟩ := HO
  refine wpList_plain hgd fun K hK => ?_
  have hrun : ∀ R w1, (Builtin.copy_ #[T, T'] o.type #[v, .slice A m.length cap]).run P W = .ok R w1 → K (a.put o.dst R) w1 → o.wp P a W K Q := fun R w1 hr hk => by
    unfold Oper.wp
    simp [execOp, ho, resolve, invoke, builtin, hd, hs, hr, Result.andThen]
    exact hk
  have same : W.grownBy W v.ownBlock := ⟨rfl, rfl, rfl, Nat.le_refl _, fun _ _ _ => rfl⟩
  have none0 : m = [] → K (a.put o.dst (goInt 0)) W := fun hm0 => by
    subst hm0
    obtain rfl : l = [] := List.eq_nil_of_length_eq_zero hlen
    exact hK _ _ (h W hO hB same)
  cases hq : P.info? e with
  | none => simp [hq] at hsz
  | some i =>
    rcases k1.2 with ⟨rfl, hl0⟩ | ⟨g, cap', cur, rfl, hb, hh, hn, hc', hcs, htake⟩
    · have hm0 : m = [] := List.eq_nil_of_length_eq_zero (by omega)
      refine hrun (goInt 0) W ?_ (none0 hm0)
      subst hm0
      cases A with
      | none => simp [Builtin.copy_, run_underlying hu, Builtin.lenOf, Builtin.firstCells, sizeOf, typeInfo, hq]
      | some ad =>
        have hl := run_loadCells_list (P := P) W ad [] (by simp)
        simp at hl
        simp [Builtin.copy_, run_underlying hu, Builtin.lenOf, Builtin.firstCells, sizeOf, typeInfo, hq, hl]
    · cases A with
      | none =>
        obtain rfl := hnone rfl
        have hm0 : m = [] := List.eq_nil_of_length_eq_zero (by omega)
        refine hrun (goInt 0) W ?_ (none0 hm0)
        subst hm0
        exact run_copy_nil (P := P) W T T' o.type e ⟨g, 0, none⟩ l.length cap' hu (by simp [hq])
      | some ad =>
        have hnews : ∀ j u, ds[j]? = some u → W.cell? (ad.add j) = some u := by
          rcases hat with rfl | ⟨b, off, e1, _, hcell⟩
          · intro j u hj; simp at hj
          · injection e1 with e1
            subst e1
            intro j u hj
            have := hcell j u hj
            rwa [show (⟨b, off, none⟩ : Addr).add j = ⟨b, off + j, none⟩ by unfold Addr.add; split <;> simp_all]
        have hdl := hc.len
        have hmin : Nat.min m.length l.length = m.length := by rw [hlen]; exact Nat.min_self _
        have hle : ds.length ≤ cur.size := by rw [hdl, hcs, ← hlen]; exact Nat.mul_le_mul_right _ hn
        have hr := run_copy_rowN (P := P) W T T' o.type e t.sz g 0 l.length cap' ad m.length cap cur e ds hu hsz hh (by rw [hmin]; exact hdl) hnews (by omega) hc.one'
        rw [hmin] at hr
        refine hrun _ _ hr (hK _ _ (h _ ?_ (below_setRow hB hb _) ?_))
        · have hlt : g < W.heap.size := (Array.getElem?_eq_some_iff.1 hh).1
          refine ⟨ds, ⟨hdl, .inr ⟨g, cap', (cur.toList.take 0 ++ ds ++ cur.toList.drop (0 + ds.length)).toArray, by rw [hlen], hb, setRow_heap _ _ _ _ _ _ hh, by omega, hc', ?_, ?_⟩⟩, ?_⟩
          · simp; omega
          · simp [← hdl]
          · exact (hc.step fun b hb => setRow_other W g b _ (fun e => hb.2 (by rw [e]; rfl)))
        · exact ⟨rfl, rfl, rfl, by simp [World.setRow], fun k hk hne => setRow_other W g k _ (fun e => hne (by rw [e]; rfl))⟩
end

theorem run_make_rowN {P : Program} (T e : TypeId) (i : TypeInfo) (z : Value) (ht : P.underlying T = some (.slice e)) (hi : P.info? e = some i) (hz : i.zero = some z)
    (kl kc : IntKind) (n c : Nat) (hnc : n ≤ c) (hbytes : i.bytes * c ≤ 281474976710656) (h63 : c ≤ 9223372036854775807) (w : World) :
    (Instr.makeSlice T (.int kl (n : Int)) (.int kc (c : Int))).run P w = .ok (.slice (some ⟨w.heap.size, 0, none⟩) n c) (w.alloc (.cells (madeCells z.cells (c * i.size)) e)) := by
  have hb : (i.bytes : Int) * (c : Int) ≤ 281474976710656 := by
    have h : ((i.bytes * c : Nat) : Int) ≤ 281474976710656 := by omega
    rwa [Int.natCast_mul] at h
  have hr := run_make (P := P) w T e i z ht hi hz kl kc n c (by omega) (by omega) hb (by omega)
  simp only [Int.toNat_natCast] at hr
  exact hr
theorem madeCells_get (z : Array Value) (n j : Nat) (h : j < n) : (madeCells z n).toList[j]? = some z[j % z.size]! := by
  simp [madeCells, h]
/-- What make has made reads as so many zeros. -/
theorem cells_made {α : Type} {t : Ty α} {w : World} {ok : Nat → Prop} {x : α} {z : Value} (hk : t.K w ok x z.cells.toList) : ∀ (n c : Nat), n ≤ c → Cells t w ok (List.replicate n x) ((madeCells z.cells (c * t.sz)).toList.take (n * t.sz)) := by
  intro n
  induction n with
  | zero => intro c _; show _ = _; simp
  | succ n ih =>
    intro c hc
    have hsz : z.cells.size = t.sz := by have := t.len hk; simpa using this
    obtain ⟨c, rfl⟩ : ∃ m, c = m + 1 := ⟨c - 1, by omega⟩
    refine ⟨z.cells.toList, (madeCells z.cells (c * t.sz)).toList.take (n * t.sz), ?_, hk, ih c (by omega)⟩
    apply List.ext_getElem?
    intro j
    have hp : ∀ m, n * t.sz + t.sz ≤ m + t.sz → n * t.sz ≤ m := fun m h => by omega
    have hnc : n * t.sz ≤ c * t.sz := Nat.mul_le_mul_right _ (by omega)
    have e1 : (n + 1) * t.sz = n * t.sz + t.sz := Nat.succ_mul _ _
    have e2 : (c + 1) * t.sz = c * t.sz + t.sz := Nat.succ_mul _ _
    have hll : z.cells.toList.length = t.sz := by simpa using hsz
    rw [List.getElem?_take]
    by_cases hj : j < (n + 1) * t.sz
    · rw [if_pos hj, madeCells_get _ _ _ (by omega)]
      by_cases hj2 : j < t.sz
      · rw [List.getElem?_append_left (by omega), hsz, Nat.mod_eq_of_lt hj2]
        have : j < z.cells.size := by omega
        simp [this]
      · rw [List.getElem?_append_right (by omega), hll, List.getElem?_take, if_pos (by omega), madeCells_get _ _ _ (by omega), hsz]
        congr 2
        rw [Nat.mod_eq_sub_mod (by omega)]
    · rw [if_neg hj]
      symm
      rw [List.getElem?_eq_none]
      have hmn := Nat.min_le_left (n * t.sz) (madeCells z.cells (c * t.sz)).toList.length
      rw [List.length_append, List.length_take, hll]
      omega
theorem Own.made {α : Type} {t : Ty α} {w : World} {ok : Nat → Prop} {x : α} {z : Value} (hk : ∀ W, t.K W (fun _ => False) x z.cells.toList) {base n c : Nat} (e : TypeId) (hb : base ≤ w.heap.size) (hn : n ≤ c) (hc : c ≤ 9223372036854775807) :
    Own t (w.alloc (.cells (madeCells z.cells (c * t.sz)) e)) base e ok (.slice (some ⟨w.heap.size, 0, none⟩) n c) (List.replicate n x) := by
  have h := (cells_made (hk (w.alloc (.cells (madeCells z.cells (c * t.sz)) e))) n c hn).mono (ok' := fun b => ok b ∧ (Value.slice (some ⟨w.heap.size, 0, none⟩) n c).ownBlock ≠ some b) (fun b hb => hb.elim)
  have hl := h.len
  refine ⟨_, ⟨hl, .inr ⟨w.heap.size, c, _, by rw [List.length_replicate], hb, heap_alloc_new w _, by simpa using hn, by simpa [maxLen] using hc, size_madeCells _ _, by rw [List.length_replicate]⟩⟩, h⟩

theorem info_size {P : Program} {e : TypeId} {sz : Nat} (hs : (P.info? e).map (·.size) = some sz) (W : World) : (sizeOf e).run P W = .ok sz W := by
  cases hq : P.info? e with
  | none => simp [hq] at hs
  | some i =>
    have hi : i.size = sz := by simpa [hq] using hs
    simp [sizeOf, typeInfo, hq, hi]
theorem run_slice_lo {P : Program} {T e : TypeId} {sz : Nat} (hu : P.underlying T = some (.slice e)) (hs : (P.info? e).map (·.size) = some sz) (A : Option Addr) {n cap k : Nat} (hk : k ≤ n) (W : World) :
    (Instr.slice T (.slice A n cap) (some (.int .i64 (k : Int))) none none).run P W = .ok (.slice (if cap = k then A else A.map (·.add (k * sz))) (n - k) (cap - k)) W := by
  have hb : (Instr.sliceBounds true n cap (some (.int .i64 (k : Int))) none none).run P W = .ok (k, n, cap) W := by
    simp [Instr.sliceBounds, run_sliceBound, hk]
  simp [Instr.slice, run_underlying hu, hb, info_size hs]
theorem run_slice_hi {P : Program} {T e : TypeId} {sz : Nat} (hu : P.underlying T = some (.slice e)) (hs : (P.info? e).map (·.size) = some sz) (A : Option Addr) {n cap k : Nat} (hk : k ≤ cap) (W : World) :
    (Instr.slice T (.slice A n cap) none (some (.int .i64 (k : Int))) none).run P W = .ok (.slice A k cap) W := by
  have hb : (Instr.sliceBounds true n cap none (some (.int .i64 (k : Int))) none).run P W = .ok (0, k, cap) W := by
    simp [Instr.sliceBounds, run_sliceBound, hk]
  have hA : (if cap = 0 then A else A.map (·.add (0 * sz))) = A := by
    split
    · rfl
    · cases A <;> simp [Addr.add]
  simp only [Instr.slice]
  simp [run_underlying hu, hb, info_size hs]
  cases A <;> simp [Addr.add]
/-- s[k:], wherever k stands: a slice that reads as what is left. -/
theorem run_slice_from {α : Type} {t : Ty α} {P : Program} {T e : TypeId} (hu : P.underlying T = some (.slice e)) (hs : (P.info? e).map (·.size) = some t.sz) {l : List α} {w : World} {ok : Nat → Prop} {b off n cap k : Nat}
    (h : Sl t w ok (.slice (some ⟨b, off, none⟩) n cap) l) (hk : k ≤ n) :
    ∃ off2 c2, (∀ W, (Instr.slice T (.slice (some ⟨b, off, none⟩) n cap) (some (.int .i64 (k : Int))) none none).run P W = .ok (.slice (some ⟨b, off2, none⟩) (n - k) c2) W) ∧
      Sl t w ok (.slice (some ⟨b, off2, none⟩) (n - k) c2) (l.drop k) := by
  obtain ⟨hl, hc, hm⟩ := h.length
  by_cases hkc : cap = k
  · refine ⟨off, cap - k, fun W => ?_, ?_⟩
    · rw [run_slice_lo hu hs _ hk, if_pos hkc]
    · rw [List.drop_of_length_le (by omega), show n - k = 0 by omega]
      exact Sl.none _ _ _ _ _ (by omega) (by intro h; cases h)
  · refine ⟨off + k * t.sz, cap - k, fun W => ?_, h.drop hk⟩
    rw [run_slice_lo hu hs _ hk, if_neg hkc]
    simp only [Option.map_some, Addr.add]
    split
    · next h0 => rw [h0]; rfl
    · rfl

/-- What stands below reads as it did: two rules for the walk. -/
theorem bcell {B : Nat} {W w1 : World} (hb : Below B W w1) : (∀ b o, b < B → w1.cell? ⟨b, o, none⟩ = W.cell? ⟨b, o, none⟩) ∧ (∀ b o, b < B → w1.frozen? ⟨b, o, none⟩ = W.frozen? ⟨b, o, none⟩) :=
  ⟨fun b o h => hb.cell (p := ⟨b, o, none⟩) h, fun b o h => hb.frozen (p := ⟨b, o, none⟩) h⟩
theorem below_drewN {B : Nat} {a w : World} (h : Below B a w) (n : Nat) : Below B a (w.drewN n) := ⟨h.os, h.tape, h.output, h.size, h.block⟩
theorem ret_bool {a b : Bool} (h : a = b) : Ending.returned (.bool a) = .returned (.bool b) := by rw [h]
theorem ret_int {k : IntKind} {a b : Int} (h : a = b) : Ending.returned (.int k a) = .returned (.int k b) := by rw [h]

/-! ### A region of open order whose operations read, and whose calls make memory alone -/
/-- Worlds that came of w by making memory. -/
def Later (w : World) : Type := { W : World // Below w.heap.size w W }
instance (w : World) : Nonempty (Later w) := ⟨⟨w, Below.refl _ _⟩⟩
def later (w : World) (e : Later w) : World := e.1
theorem later_below {w : World} (e : Later w) : Below w.heap.size w (later w e) := e.2
theorem later_mk {w W : World} (h : Below w.heap.size w W) : ∃ e : Later w, W = later w e := ⟨⟨W, h⟩, rfl⟩
theorem later_from {B : Nat} {w0 w : World} (h : Below B w0 w) (hB : B ≤ w.heap.size) (e : Later w) : Below B w0 (later w e) := h.trans ((later_below e).mono hB)
theorem later_cell {w : World} (e : Later w) {b o : Nat} (h : b < w.heap.size) : (later w e).cell? ⟨b, o, none⟩ = w.cell? ⟨b, o, none⟩ := (later_below e).cell (p := ⟨b, o, none⟩) h
attribute [go_sem] later_cell
theorem wp_region_later {P : Program} {id : Nat} {Q : Exit → Act → World → Prop} {a : Act} {w : World} {l : List Oper} (hm : P.follows .mixedOrders = true) (hB : Region.lexB .any l.toArray = true)
    (h : wpQuiet P l.toArray (fun W => ∃ e : Later w, W = later w e) (fun a' => ∀ W, (∃ e : Later w, W = later w e) → Q .normal a' W) l a) : (Code.region id l.toArray true).wp P Q a w :=
  wp_region_quiet (C := fun W => ∃ e : Later w, W = later w e) hm hB (later_mk (Below.refl _ _).drew) (by simpa using h)
/-- A callee's contract, in a later world. -/
theorem calls_later {P : Program} {f : FuncId} {args : Array Value} {w : World} {e : Later w} {v : Value} (h : Calls P f args (later w e) fun r W => r = .returned v ∧ Below (later w e).heap.size (later w e) W) :
    Calls P f args (later w e) fun r W => r = .returned v ∧ ∃ e' : Later w, W = later w e' :=
  h.mono fun _ _ ⟨hr, hb⟩ => ⟨hr, later_mk ((later_below e).trans (hb.mono (later_below e).size))⟩

/-! ### Kinds made of kinds -/
def Ty.int (k : IntKind) : Ty Int := Ty.flat 1 (fun n => [.int k n]) (fun _ => rfl) (fun x u hu => by simp at hu; rw [hu]; rfl)
def Ty.bool : Ty Bool := Ty.flat 1 (fun b => [.bool b]) (fun _ => rfl) (fun x u hu => by simp at hu; rw [hu]; rfl)
def Ty.str : Ty ByteArray := Ty.flat 1 (fun s => [.string s]) (fun _ => rfl) (fun x u hu => by simp at hu; rw [hu]; rfl)
def Ty.slice {α : Type} (t : Ty α) : Ty (List α) where
  sz := 1
  K := fun w ok l cs => ∃ v, cs = [v] ∧ Sl t w ok v l
  len := fun ⟨v, e, _⟩ => by rw [e]; rfl
  mono := fun ⟨v, e, h⟩ hm => ⟨v, e, h.mono hm⟩
  inb := fun ⟨v, e, h⟩ => ⟨v, e, h.inb⟩
  step := fun ⟨v, e, h⟩ hm => ⟨v, e, h.step hm⟩
  one := fun ⟨v, e, h⟩ u hu => by
    rw [e] at hu; simp at hu; subst hu
    obtain ⟨A, cap, hv, _⟩ := h.form
    rw [hv]; rfl
def Ty.pair {α β : Type} (a : Ty α) (b : Ty β) : Ty (α × β) where
  sz := a.sz + b.sz
  K := fun w ok x cs => ∃ c d, cs = c ++ d ∧ a.K w ok x.1 c ∧ b.K w ok x.2 d
  len := fun ⟨c, d, e, h, k⟩ => by rw [e, List.length_append, a.len h, b.len k]
  mono := fun ⟨c, d, e, h, k⟩ hm => ⟨c, d, e, a.mono h hm, b.mono k hm⟩
  inb := fun ⟨c, d, e, h, k⟩ => ⟨c, d, e, a.inb h, b.inb k⟩
  step := fun ⟨c, d, e, h, k⟩ hm => ⟨c, d, e, a.step h hm, b.step k hm⟩
  one := fun ⟨c, d, e, h, k⟩ u hu => by rw [e, List.mem_append] at hu; exact hu.elim (a.one h u) (b.one k u)
def Ty.iso {α β : Type} (t : Ty α) (f : β → α) : Ty β where
  sz := t.sz
  K := fun w ok x cs => t.K w ok (f x) cs
  len := fun h => t.len h
  mono := fun h hm => t.mono h hm
  inb := fun h => t.inb h
  step := fun h hm => t.step h hm
  one := fun h => t.one h
end Go.Proofs.Ytidfogcilegloaa
