import Derived.Test.YtidfogcilegloaaRep
import Derived.Deep.Slices
import Derived.Deep.Fields
import Derived.ChangeSame
import Derived.ProofKit
import Derived.SizedLaws
/-!
  From the row's reading of an argument to the readings of these texts; no part of an argument takes more room than memory has.
-/
namespace Go.Proofs.Ytidfogcilegloaa
open Go.RowKit Go.Deep Go.ChangeShapes Go.WideShapes

/-- No part takes more room than memory has. -/
def Fits {H : Type} (P : Program) (T : TypeId) (d : DataW H) : Prop := ∀ n ∈ d.weights P T, n ≤ reachBytes
theorem mem_weightsAll {H : Type} {P : Program} {e : TypeId} {d : DataW H} {n : Nat} (hn : n ∈ d.weights P e) : ∀ {ds : List (DataW H)}, d ∈ ds → n ∈ DataW.weightsAll P e ds
  | x :: ds, h => by
    simp only [DataW.weightsAll, List.mem_append]
    rcases List.mem_cons.1 h with rfl | h
    · exact .inl hn
    · exact .inr (mem_weightsAll hn h)

/-- Whatever the row reads as type T reads as t, and is as wf says. -/
def Opens {α : Type} (P : Program) (T : TypeId) (t : Ty α) (wf : α → Prop) : Prop :=
  ∀ (H : Type) (enc : TypeId × Value → H) (w : World) (spare : Nat → Bool) (held : Bool) (fuel : Nat) (cs : List Value) (x : DataW H × List MemPlace),
    DataW.trod enc P w 0 spare held fuel T cs = some x → Fits P T x.1 → ∃ d, t.K w (fun _ => True) d cs ∧ wf d

section
variable {α β : Type} {P : Program} {T e : TypeId} {t : Ty α} {t0 : Ty β} {wf : α → Prop} {wf0 : β → Prop}
theorem opens_int {k : IntKind} (ht : P.underlying T = some (.int k)) : Opens P T (Ty.int k) (fun n => (Lit.int k n).wf = true) := fun _ _ _ _ _ _ _ _ h _ => by
  obtain ⟨n, rfl, _, hw⟩ := DataW.trod_int ht h
  exact ⟨n, rfl, hw⟩
theorem opens_bool (ht : P.underlying T = some .bool) : Opens P T Ty.bool (fun _ => True) := fun _ _ _ _ _ _ _ _ h _ => by
  obtain ⟨n, rfl, _⟩ := DataW.trod_bool ht h
  exact ⟨n, rfl, trivial⟩
theorem opens_str (ht : P.underlying T = some .string) : Opens P T Ty.str (fun s => s.size ≤ reachBytes) := fun _ _ _ _ _ _ _ _ h hf => by
  obtain ⟨n, rfl, rfl, hw⟩ := DataW.trod_string ht h
  exact ⟨n, rfl, by simpa using hf n.data.toList.length (by simp [DataW.weights])⟩
theorem opens_iso {f : β → α} {g : α → β} (hfg : ∀ x, f (g x) = x) (h : Opens P T t wf) : Opens P T (t.iso f) (fun y => wf (f y)) := fun _ _ _ _ _ _ _ _ h1 h2 => by
  obtain ⟨d, hk, hw⟩ := h _ _ _ _ _ _ _ _ h1 h2
  refine ⟨g d, ?_, ?_⟩
  · show t.K _ _ (f (g d)) _
    rw [hfg]; exact hk
  · show wf (f (g d))
    rw [hfg]; exact hw
theorem cells_of {w : World} {ok : Nat → Prop} {f : Nat → List Value} : ∀ (n : Nat), (∀ i, i < n → ∃ d, t.K w ok d (f i) ∧ wf d) → ∃ l : List α, l.length = n ∧ Cells t w ok l ((List.range n).flatMap f) ∧ ∀ x ∈ l, wf x
  | 0, _ => ⟨[], rfl, rfl, fun _ h => by cases h⟩
  | n + 1, h => by
    obtain ⟨l, hl, hc, hw⟩ := cells_of n (fun i hi => h i (by omega))
    obtain ⟨d, hk, hd⟩ := h n (by omega)
    refine ⟨l ++ [d], by simp [hl], ?_, fun x hx => ?_⟩
    · rw [List.range_succ, List.flatMap_append]
      exact hc.append (by simpa using Cells.one hk)
    · rw [List.mem_append] at hx
      rcases hx with hx | hx
      · exact hw x hx
      · simp at hx; rw [hx]; exact hd
theorem flat_at {f : Nat → List Value} {sz : Nat} (hs : 0 < sz) : ∀ (n : Nat), (∀ i, i < n → (f i).length = sz) → ∀ j u, ((List.range n).flatMap f)[j]? = some u → ∃ i k, i < n ∧ k < sz ∧ j = i * sz + k ∧ (f i)[k]? = some u
  | 0, _, j, u, h => by simp at h
  | n + 1, hl, j, u, h => by
    rw [List.range_succ, List.flatMap_append] at h
    have hlen : ((List.range n).flatMap f).length = n * sz := by
      clear h
      induction n with
      | zero => simp
      | succ n ih => rw [List.range_succ, List.flatMap_append, List.length_append, ih (fun i hi => hl i (by omega))]; simp [hl n (by omega), Nat.succ_mul]
    by_cases hj : j < n * sz
    · rw [List.getElem?_append_left (by omega)] at h
      obtain ⟨i, k, h1, h2, h3, h4⟩ := flat_at hs n (fun i hi => hl i (by omega)) j u h
      exact ⟨i, k, by omega, h2, h3, h4⟩
    · rw [List.getElem?_append_right (by omega), hlen] at h
      simp only [List.flatMap_cons, List.flatMap_nil, List.append_nil] at h
      have := (List.getElem?_eq_some_iff.1 h).1
      rw [hl n (by omega)] at this
      exact ⟨n, j - n * sz, by omega, this, by omega, h⟩
theorem opens_slice (ht : P.underlying T = some (.slice e)) (hsz : P.cellsOf e = t.sz) (hpos : 0 < t.sz) (h : Opens P e t wf) : Opens P T (Ty.slice t) (fun l => (∀ x ∈ l, wf x) ∧ l.length * P.bytesOf e ≤ reachBytes) := by
  intro H enc w spare held fuel cs x hx hfit
  rcases open_slice ht hx with ⟨rfl, _⟩ | ⟨a, len, cap, m, n, D, Pl, rfl, _, hl, hm, hmm, hxe, hi⟩
  · exact ⟨[], ⟨_, rfl, Sl.nil _ _ _⟩, (fun _ h => by cases h), by simp⟩
  · have hlm : len ≤ m := by rw [hmm]; split <;> omega
    have hch : ∃ f : Nat → List Value, ∀ i, i < len → w.cells? 0 (a.add (i * t.sz)) t.sz = some (f i) ∧ ∃ d, t.K w (fun _ => True) d (f i) ∧ wf d := by
      refine ⟨fun i => (w.cells? 0 (a.add (i * t.sz)) t.sz).getD [], fun i hil => ?_⟩
      obtain ⟨cs', hc, ht'⟩ := hi i (by omega)
      rw [hsz] at hc
      dsimp only
      rw [hc]
      exact ⟨rfl, h _ _ _ _ _ _ _ _ ht' fun k hk => hfit k (by rw [hxe]; simp only [DataW.weights, ht, List.mem_cons, List.mem_append]; exact .inr (.inl (mem_weightsAll hk (List.mem_map.2 ⟨i, by simp; exact hil, rfl⟩))))⟩
    have hroom : len * P.bytesOf e ≤ reachBytes := by
      have := hfit ((len + (m - len)) * P.bytesOf e) (by rw [hxe]; simp [DataW.weights, ht])
      exact Nat.le_trans (Nat.mul_le_mul_right _ (by omega)) this
    obtain ⟨f, hf⟩ := hch
    obtain ⟨l, hll, hcells, hw⟩ := cells_of (t := t) (wf := wf) (ok := fun _ => True) len (fun i hil => (hf i hil).2)
    refine ⟨l, ⟨_, rfl, some a, cap, _, by rw [hll], by omega, ⟨by simpa [maxLen] using hm, fun h => by cases h⟩, hcells, ?_⟩, hw, by rw [hll]; exact hroom⟩
    by_cases h0 : len = 0
    · exact .inl (by rw [h0]; rfl)
    · obtain ⟨b, off, spot⟩ := a
      have hsp : spot = none := by
        obtain ⟨_, hlen, hcell⟩ := World.cells?_some (hf 0 (by omega)).1
        have h1 := hcell 0 hpos
        rw [List.getElem?_eq_getElem (by omega)] at h1
        simpa [Addr.add] using World.cell?_spot h1
      subst hsp
      refine .inr ⟨b, off, rfl, trivial, fun j u hj => ?_⟩
      obtain ⟨i, k, h1, h2, rfl, h4⟩ := flat_at hpos len (fun i hil => (World.cells?_some (hf i hil).1).2.1) j u hj
      obtain ⟨_, hlen, hcell⟩ := World.cells?_some (hf i h1).1
      have h5 := hcell k h2
      rw [h4] at h5
      rw [← h5]
      congr 1
      unfold Addr.add
      split <;> split <;> simp_all <;> omega

/-- The fields from offset 'off' on read as t. -/
def OpensFs (P : Program) (off : Nat) (fs : List Field) (t : Ty α) (wf : α → Prop) : Prop :=
  ∀ (H : Type) (enc : TypeId × Value → H) (w : World) (spare : Nat → Bool) (held : Bool) (fuel : Nat) (cs : List Value),
    cs.length = off + t.sz → (∀ f ∈ fs, ∃ y, DataW.trod enc P w 0 spare held fuel f.type ((cs.drop f.offset).take (P.cellsOf f.type)) = some y ∧ Fits P f.type y.1) → ∃ d, t.K w (fun _ => True) d (cs.drop off) ∧ wf d
theorem opensFs_one {off : Nat} {f : Field} (ho : f.offset = off) (hc : P.cellsOf f.type = t.sz) (h : Opens P f.type t wf) : OpensFs P off [f] t wf := by
  intro H enc w spare held fuel cs hl hf
  obtain ⟨y, hy, hyf⟩ := hf f (by simp)
  rw [ho, hc, List.take_of_length_le (by simp; omega)] at hy
  exact h _ _ _ _ _ _ _ _ hy hyf
theorem opensFs_cons {off off' : Nat} {f : Field} {fs : List Field} (ho : f.offset = off) (hc : P.cellsOf f.type = t0.sz) (ho' : off' = off + t0.sz) (h : Opens P f.type t0 wf0) (hs : OpensFs P off' fs t wf) :
    OpensFs P off (f :: fs) (t0.pair t) (fun x => wf0 x.1 ∧ wf x.2) := by
  intro H enc w spare held fuel cs hl hf
  obtain ⟨y, hy, hyf⟩ := hf f (by simp)
  rw [ho, hc] at hy
  obtain ⟨d0, k0, w0⟩ := h _ _ _ _ _ _ _ _ hy hyf
  have hl' : cs.length = off + (t0.sz + t.sz) := hl
  obtain ⟨d, k, wd⟩ := hs H enc w spare held fuel cs (by omega) (fun g hg => hf g (by simp [hg]))
  refine ⟨(d0, d), ⟨_, _, ?_, k0, k⟩, w0, wd⟩
  rw [ho', ← List.drop_drop, List.take_append_drop]
theorem opens_struct {fs : Array Field} (ht : P.underlying T = some (.struct fs)) (hc : P.cellsOf T = t.sz) (h : OpensFs P 0 fs.toList t wf) : Opens P T t wf := by
  intro H enc w spare held fuel cs x hx hfit
  obtain ⟨xs, n, _, hxe, hl, hxl, hf⟩ := DataW.trod_struct ht hx
  obtain ⟨d, k, wd⟩ := h H enc w spare held n cs (by omega) (fun f hfm => by
    obtain ⟨i, hi, rfl⟩ := List.getElem_of_mem hfm
    have hi' : i < fs.size := by simpa using hi
    have h1 := hf i fs[i] (Array.getElem?_eq_getElem hi')
    refine ⟨xs[i], by rw [← List.getElem?_eq_getElem (by omega)]; simpa using h1, fun k hk => hfit k ?_⟩
    rw [hxe]
    simp only [DataW.weights, ht]
    refine DataW.weights_mem_each (j := i) (t := fs[i].type) (d := xs[i].1) ?_ ?_ k ?_
    · simp [hi']
    · simp [show i < xs.length by omega]
    · simpa using hk)
  exact ⟨d, by simpa using k, wd⟩
end
end Go.Proofs.Ytidfogcilegloaa
