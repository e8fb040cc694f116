import Derived.Test.YtdoigefmmjhjcaaW10
/-! Writing to an element of a slice of versions: the slice still reads as versions, with that one changed. -/
namespace Go.Proofs.Ytdoigefmmjhjcaa
open Go.RowKit

theorem cells_ver {w : World} {ok : Nat → Prop} : ∀ {l : List Ver} {cs : List Value}, Cells tVer w ok l cs ↔ cs = l.flatMap Ver.enc
  | [], _ => Iff.rfl
  | x :: l, cs => by
    constructor
    · rintro ⟨c, d, e, hk, hd⟩
      rw [e, show c = x.enc from hk, cells_ver.1 hd]; rfl
    · intro h
      exact ⟨x.enc, l.flatMap Ver.enc, by rw [h]; rfl, rfl, cells_ver.2 rfl⟩
theorem flat_set : ∀ {l : List Ver} {i j : Nat} {x x' : Ver} {u : Value}, l[i]? = some x → j < 3 → x'.enc = x.enc.set j u → (l.set i x').flatMap Ver.enc = (l.flatMap Ver.enc).set (i * 3 + j) u
  | [], i, _, _, _, _, h, _, _ => by simp at h
  | y :: l, 0, j, x, x', u, h, hj, he => by
    obtain rfl : y = x := by simpa using h
    have hlen : y.enc.length = 3 := rfl
    rw [List.set_cons_zero, List.flatMap_cons, List.flatMap_cons, he, Nat.zero_mul, Nat.zero_add, List.set_append_left _ _ (by omega)]
  | y :: l, i + 1, j, x, x', u, h, hj, he => by
    have hlen : y.enc.length = 3 := rfl
    rw [List.set_cons_succ, List.flatMap_cons, List.flatMap_cons, List.set_append_right _ _ (by omega), flat_set (by simpa using h) hj he, hlen]
    congr 2; omega
theorem sl_setVer {w : World} {ok : Nat → Prop} {b off n cap : Nat} {l : List Ver} (h : Sl tVer w ok (.slice (some ⟨b, off, none⟩) n cap) l) {i j : Nat} {x x' : Ver} {u : Value} (hi : l[i]? = some x) (hj : j < 3) (he : x'.enc = x.enc.set j u) :
    Sl tVer (w.setCell ⟨b, off + i * 3 + j, none⟩ u) ok (.slice (some ⟨b, off, none⟩) n cap) (l.set i x') := by
  obtain ⟨A, cap', cs, e, h1, h2, h3, h4⟩ := h
  injection e with e1 e2 e3
  subst e1 e2 e3
  refine ⟨_, _, cs.set (i * 3 + j) u, by rw [List.length_set], by rw [List.length_set]; exact h1, h2, ?_, ?_⟩
  · rw [cells_ver] at h3 ⊢
    rw [h3, flat_set hi hj he]
  · rcases h4 with h4 | ⟨b', off', e, hb, hc⟩
    · have hl := h3.len
      rw [h4] at hl
      have := (List.getElem?_eq_some_iff.1 hi).1
      simp [show tVer.sz = 3 from rfl] at hl
      omega
    · injection e with e
      injection e with e1 e2
      subst e1 e2
      refine .inr ⟨b, off, rfl, hb, fun k v hk => ?_⟩
      by_cases hke : k = i * 3 + j
      · subst hke
        rw [List.getElem?_set_self'] at hk
        cases hq : cs[i * 3 + j]? with
        | none => rw [hq] at hk; cases hk
        | some q =>
          rw [hq] at hk
          obtain rfl : u = v := by simpa using hk
          rw [show off + (i * 3 + j) = off + i * 3 + j by omega]
          exact World.cell?_setCell_same w _ _ (by rw [show off + i * 3 + j = off + (i * 3 + j) by omega]; exact hc _ _ hq)
      · rw [List.getElem?_set_ne (by omega)] at hk
        exact (World.cell?_setCell_other w _ _ _ (by intro e; injection e with _ e; omega)).trans (hc k v hk)
theorem sl_ver_ok {w : World} {ok : Nat → Prop} {A : Option Addr} {n cap : Nat} {l : List Ver} (h : Sl tVer w ok (.slice A n cap) l) {i : Nat} {x : Ver} (hi : l[i]? = some x) :
    ∃ b off, A = some ⟨b, off, none⟩ ∧ ok b ∧ b < w.heap.size ∧ w.cell? ⟨b, off + i * 3, none⟩ = some (.int .i64 x.at_) ∧ w.cell? ⟨b, off + i * 3 + 1, none⟩ = some (.string x.val) ∧ w.cell? ⟨b, off + i * 3 + 2, none⟩ = some (.bool x.dead) := by
  obtain ⟨b, off, c, e, hb, hk, hc⟩ := h.at (by decide) hi
  obtain rfl : c = x.enc := hk
  exact ⟨b, off, e, hb, World.block_lt_of_cell? w _ (hc 0 _ rfl), hc 0 _ rfl, hc 1 _ rfl, hc 2 _ rfl⟩
/-- A write to an element's text. -/
theorem sl_setVal {w : World} {ok : Nat → Prop} {b off n cap : Nat} {l : List Ver} (h : Sl tVer w ok (.slice (some ⟨b, off, none⟩) n cap) l) {i : Nat} {x : Ver} (hi : l[i]? = some x) (s : ByteArray) :
    Sl tVer (w.setCell ⟨b, off + i * 3 + 1, none⟩ (.string s)) ok (.slice (some ⟨b, off, none⟩) n cap) (l.set i ⟨x.at_, s, x.dead⟩) := sl_setVer h hi (by decide) rfl
/-- A write to an element's place. -/
theorem sl_setAt {w : World} {ok : Nat → Prop} {b off n cap : Nat} {l : List Ver} (h : Sl tVer w ok (.slice (some ⟨b, off, none⟩) n cap) l) {i : Nat} {x : Ver} (hi : l[i]? = some x) (z : Int) :
    Sl tVer (w.setCell ⟨b, off + i * 3, none⟩ (.int .i64 z)) ok (.slice (some ⟨b, off, none⟩) n cap) (l.set i ⟨z, x.val, x.dead⟩) := sl_setVer (j := 0) h hi (by decide) rfl
end Go.Proofs.Ytdoigefmmjhjcaa
