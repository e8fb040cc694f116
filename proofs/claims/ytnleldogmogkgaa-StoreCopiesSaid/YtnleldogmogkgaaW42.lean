import Derived.Test.YtnleldogmogkgaaW39
import Derived.Test.YtnleldogmogkgaaW21
/-! The document's Collect. -/
namespace Go.Proofs.Ytnleldogmogkgaa
open Go.RowKit Go.Op

theorem info88 : (Try.prog.info? 88).map (fun i => (i.zero, i.size, i.bytes)) = some (some (.agg #[.string ⟨#[]⟩, .slice none 0 0]), 2, 40) := by kernel_rfl

theorem Own.sl2 {α : Type} {t : Ty α} {w : World} {base : Nat} {e : TypeId} {ok : Nat → Prop} {v : Value} {l : List α} (h : Own t w base e ok v l) : Sl t w (fun b => ok b ∨ v.ownBlock = some b) v l := by
  obtain ⟨cs, h1, h2⟩ := h
  have hlen := h2.len
  have hcells := fun g hg => World.ownsRow.cells h1 (g := g) hg
  rcases h1.2 with ⟨rfl, h0⟩ | ⟨g, cap, cur, rfl, hb, hh, hn, hc, _⟩
  · obtain rfl := List.eq_nil_of_length_eq_zero h0
    obtain rfl : cs = [] := h2
    exact Sl.nil _ _ _
  · refine ⟨_, cap, cs, rfl, hn, ⟨by simpa [maxLen] using hc, fun h => by cases h⟩, h2.mono fun b hb => .inl hb.1, .inr ⟨g, 0, rfl, .inr rfl, fun j u hj => ?_⟩⟩
    have := hcells g rfl j u hj
    rwa [show (⟨g, 0, none⟩ : Addr).add j = ⟨g, 0 + j, none⟩ by unfold Addr.add; split <;> simp_all] at this
theorem Rst.far {w : World} {rb : Nat} {v : Value} {X : List Nat} {S : Sto} (h : Rst w rb v X S) : Sl tKey w (fun b => b ≠ rb ∧ b < w.heap.size) v S.ents :=
  h.row.sl2.inb.mono fun b hb => ⟨fun e => by
    rcases hb.1 with h1 | h1
    · exact h1 (by rw [e]; exact h.inP)
    · exact h.nP (by rw [← e]; exact h1), hb.2⟩
theorem rcoll_done {w w1 w9 : World} {rb z : Nat} {v vl : Value} {X : List Nat} {S : Sto} {n : Int} (h : Rst w rb v X S) (hz : w.heap.size = z) (hn : ¬(n < S.floor ∨ S.last < n)) (hw1 : w.setCell ⟨rb, 2, none⟩ (.int .i64 n) = w1) (hB : Below z w1 w9)
    (hO : Own tKey w9 z 88 (fun b => z ≤ b) vl (trims S.ents n)) :
    Rst (w9.setCell ⟨rb, 0, none⟩ vl) rb vl (vl.ownBlock.toList ++ X) (coll S n).2 ∧ Chg rb rb v w (w9.setCell ⟨rb, 0, none⟩ vl) ∧ Kin w v vl ∧ Xin w X (vl.ownBlock.toList ++ X) := by
  have hc : coll S n = (0, ⟨trims S.ents n, S.last, n⟩) := by unfold coll; rw [if_neg hn]
  have hco := coll_ok h.ok n
  have hrb : rb < z := by rw [← hz]; exact h.blk.lt
  have hs1 : w1.heap.size = z := by rw [← hw1, World.size_setCell]; exact hz
  have hs9 := hB.size
  have hb1 : Blk w1 rb #[v, .int .i64 S.last, .int .i64 n] 53 := by rw [← hw1]; exact h.blk.set 2 _
  have hb9 := hb1.below hB hrb
  have hlo : ∀ b, vl.ownBlock = some b → z ≤ b ∧ b < w9.heap.size := fun b e => hO.lo e
  rw [hc] at hco ⊢
  have hfar : ∀ k, k ≠ rb → (w9.setCell ⟨rb, 0, none⟩ vl).heap[k]? = w9.heap[k]? := fun k hne => Below.heap_setCell w9 ⟨rb, 0, none⟩ vl k hne
  have hold : ∀ b, b < z → b ≠ rb → (w9.setCell ⟨rb, 0, none⟩ vl).heap[b]? = w.heap[b]? := fun b hb hne => by
    rw [hfar b hne, hB.block b hb, ← hw1]
    exact Below.heap_setCell w ⟨rb, 2, none⟩ _ b hne
  refine ⟨⟨hb9.set 0 vl, ?_, hco, ?_, h.last, List.mem_append_right _ h.inP, fun b e => List.mem_append_left _ (by rw [e]; simp), ?_, fun e => by have := (hlo rb e).1; omega⟩, ⟨?_, ?_, ?_, ?_, fun b hb h1 _ _ => hold b (by omega) h1⟩, .inr fun b e => by have := (hlo b e).1; omega, ⟨fun b hb => ?_, fun b hb => List.mem_append_right _ hb⟩⟩
  · obtain ⟨cs, ⟨e1, hr⟩, hcs⟩ := hO
    refine ⟨cs, ⟨e1, ?_⟩, (hcs.step fun b hb => hfar b (fun e => by have := hb.1; omega)).mono fun b hb => ⟨fun hm => ?_, hb.2⟩⟩
    · rcases hr with hr | ⟨g, cap, rest, e2, hb, hB2, r⟩
      · exact .inl hr
      · subst e2
        exact .inr ⟨g, cap, rest, rfl, by omega, (hfar g (by omega)).trans hB2, r⟩
    · rcases List.mem_append.1 hm with hm | hm
      · exact hb.2 (by simpa using hm)
      · have := h.lt b hm; have := hb.1; omega
  · exact Nat.le_trans (trims_length _ _) h.few
  · intro b hm
    rw [World.size_setCell]
    rcases List.mem_append.1 hm with hm | hm
    · exact (hlo b (by simpa using hm)).2
    · have := h.lt b hm; omega
  · show w9.os = w.os
    rw [hB.os, ← hw1]; rfl
  · show w9.tape = w.tape
    rw [hB.tape, ← hw1]; rfl
  · show w9.output = w.output
    rw [hB.output, ← hw1]; rfl
  · rw [World.size_setCell]; omega
  · rcases List.mem_append.1 hb with hb | hb
    · have := (hlo b (by simpa using hb)).1; exact .inr (by omega)
    · exact .inl hb

set_option maxHeartbeats 4000000 in
theorem rcoll_calls (rb : Nat) (v : Value) (X : List Nat) (S : Sto) (n : Int) (w : World) (h : Rst w rb v X S) :
    Calls Try.prog 43 #[.pointer (some ⟨rb, 0, none⟩), .int .i64 n] w fun e w' => e = .returned (.int .i64 (coll S n).1) ∧ ∃ v' X', Rst w' rb v' X' (coll S n).2 ∧ Chg rb rb v w w' ∧ Kin w v v' ∧ Xin w X X' := by
  obtain ⟨c0, c1, c2⟩ := h.cells
  have f2 := h.blk.frozen 2
  by_cases hno : n < S.floor ∨ S.last < n
  · have hc : coll S n = (2, S) := by unfold coll; rw [if_pos hno]
    rw [hc]
    have HH := Lib.hid h
    clear h hc
    by_cases h1 : n < S.floor
    · clear hno
      go_enter Try.func43, Try.ntmps43
      go_wp2
      go_ret
      exact ⟨rfl, _, _, HH.out, Chg.refl _ _ _ _, Kin.refl _ _, Xin.refl _ _⟩
    · have h2 : S.last < n := by omega
      clear hno
      go_enter Try.func43, Try.ntmps43
      go_wp2
      go_ret
      exact ⟨rfl, _, _, HH.out, Chg.refl _ _ _ _, Kin.refl _ _, Xin.refl _ _⟩
  · obtain ⟨A, c, rfl, hs⟩ := h.sl
    have hc1 : (coll S n).1 = 0 := by unfold coll; rw [if_neg hno]
    rw [hc1]
    have h1 : ¬ n < S.floor := by omega
    have h2 : ¬ S.last < n := by omega
    have HH := Lib.hid h
    have HNO := Lib.hid hno
    obtain ⟨S2, hS2⟩ : ∃ S2, (coll S n).2 = S2 := ⟨_, rfl⟩
    rw [hS2]
    have HS2 := Lib.hid hS2
    obtain ⟨z, hz⟩ : ∃ z, w.heap.size = z := ⟨_, rfl⟩
    obtain ⟨w1, hw1⟩ : ∃ w1, w.setCell ⟨rb, 2, none⟩ (.int .i64 n) = w1 := ⟨_, rfl⟩
    have hz1 : w1.heap.size = z := by rw [← hw1, World.size_setCell]; exact hz
    have hrz : rb < z := by rw [← hz]; exact h.blk.lt
    have HS1 : Hid (Sl tKey w1 (fun b => b < z) (.slice A S.ents.length c) S.ents) := by
      show Sl _ _ _ _ _
      rw [← hw1]
      exact (h.far.step fun b hb => Below.heap_setCell w ⟨rb, 2, none⟩ _ b hb.1).mono fun b hb => by rw [← hz]; exact hb.2
    have hb1 : Blk w1 rb #[.slice A S.ents.length c, .int .i64 S.last, .int .i64 n] 53 := by rw [← hw1]; exact h.blk.set 2 _
    have HBL := Lib.hid hb1
    have d0 := hb1.cell 0
    have HZ := Lib.hid hz
    obtain ⟨q, hq⟩ : ∃ q, S.ents.length = q := ⟨_, rfl⟩
    have HN := Lib.hid hq
    have hq0 := h.few
    have HOK := Lib.hid h.ok
    have HLA := Lib.hid h.last
    rw [hq] at c0 d0 HS1 hq0 HBL HH
    have hqc := HS1.out.length.2.1
    have HX0 : Hid (Below z w1 w1) := Below.refl _ _
    have HO0 : Hid (Own tKey w1 z 88 (fun b => z ≤ b) (.slice none 0 0) (trims (S.ents.take 0) n)) := Own.nil _ _ _ _ _
    clear h hc1 hno hS2 hs hb1 hq hz
    go_enter Try.func43, Try.ntmps43
    go_wp2
    have HW1 := Lib.hid hw1
    clear hw1
    go_loopw [5, 32] (fun vl i wr => ∃ (j : Nat) (PL : Option Addr) (len cL : Nat), i = .int .i64 j ∧ j ≤ q ∧ vl = .slice PL len cL ∧ len ≤ j ∧ Hid (Own tKey wr z 88 (fun b => z ≤ b) (.slice PL len cL) (trims (S.ents.take j) n)) ∧ Hid (Below z w1 wr)) (fun _ i _ => q - (intOf i).toNat)
    case atStart => exact ⟨0, none, 0, 0, rfl, by omega, rfl, by omega, HO0, HX0⟩
    case round =>
      obtain ⟨j, PL, len, cL, rfl, hj, rfl, hlj, hO, hB⟩ := hrel
      clear HO0 HX0
      have hlen := hO.out.sl.length.1
      by_cases hlt : j < q
      · obtain ⟨e, he⟩ := some_at (show j < S.ents.length by rw [HN.out]; exact hlt)
        obtain ⟨b, off, P, m, cp, rfl, hbl, x0, x1, hP⟩ := sl_key (HS1.out.step fun b hb => hB.out.block b hb) he
        obtain ⟨w7, hw7⟩ : ∃ w7, wr.alloc (.cells #[.string e.key, .slice P m cp] 88) = w7 := ⟨_, rfl⟩
        have hb7 : Below wr.heap.size wr w7 := by rw [← hw7]; exact (Below.refl _ _).alloc (Nat.le_refl _) _
        have hV7 : Blk w7 wr.heap.size #[.string e.key, .slice P m cp] 88 := by rw [← hw7]; exact Blk.new _ _ _
        have hzr : z ≤ wr.heap.size := by have := hB.out.size; omega
        have HB7 := Lib.hid (hB.out.trans (hb7.mono hzr))
        have HE7 := Lib.hid hV7
        have HO7 := Lib.hid (hO.out.below hb7)
        have hm7 := hP.length.1
        have hmm := HOK.out.len HLA.out (List.mem_of_getElem? he)
        have HGE := Lib.hid (rtrim_calls e.c P m cp n w7 ((hP.below hb7).mono fun _ _ => trivial) (by omega))
        have y0 := hV7.cell 0
        have y1 := hV7.cell 1
        obtain ⟨t1, t2⟩ := trims_take n he
        have HT1 := Lib.hid t1
        have HT2 := Lib.hid t2
        have hz7 : w7.heap.size = wr.heap.size + 1 := by rw [← hw7]; simp
        have hown : ∀ b, (Value.slice PL len cL).ownBlock = some b → b < w7.heap.size := fun b e => (HO7.out.lo e).2
        have HOWN := Lib.hid hown
        clear hb7 hV7 hP he hB hO t1 t2 hown
        go_wp2_with fail
        refine HGE.out.mono ?_
        rintro e8 w8 ⟨v8, rfl, hs8, hb8⟩
        obtain ⟨P8, c8, rfl, -⟩ := hs8.form
        obtain ⟨k, hk⟩ : ∃ k, (trim e.c n).length = k := ⟨_, rfl⟩
        rw [hk] at hs8 ⊢
        have hE8 := HE7.out.below hb8 HE7.out.lt
        have hsz8 := hb8.size
        have HB8 := Lib.hid (HB7.out.trans (hb8.mono (by have := HB7.out.size; omega)))
        have HO8 := Lib.hid (HO7.out.below hb8)
        have y0 := hE8.cell 0
        have HK := Lib.hid hk
        have HS8 := Lib.hid hs8
        clear hb8 hE8 HGE HE7 HB7 HO7 hk hs8 hw7
        rcases Nat.eq_zero_or_pos k with h0 | h0
        · subst h0
          have ht : trims (S.ents.take (j + 1)) n = trims (S.ents.take j) n := HT1.out (List.eq_nil_of_length_eq_zero HK.out)
          have R : Hid (Own tKey w8 z 88 (fun b => z ≤ b) (.slice PL len cL) (trims (S.ents.take (j + 1)) n)) := by show Own _ _ _ _ _ _ _; rw [ht]; exact HO8.out
          clear y0 ht
          go_wp2
          go_roundw
          case rel => exact ⟨j + 1, PL, len, cL, by go_num, by omega, rfl, by omega, R, HB8⟩
          case measure => simp [intOf]; omega
        · have h1 : decide (0 < k) = true := decide_eq_true h0
          have ht : trims (S.ents.take (j + 1)) n = trims (S.ents.take j) n ++ [⟨e.key, trim e.c n⟩] := HT2.out (fun e0 => by have := HK.out; rw [e0] at this; simp at this; omega)
          have HT := Lib.hid ht
          have HLE := Lib.hid hlen
          have hKk : Hid (tKey.K w8 (fun b => z ≤ b ∧ (Value.slice PL len cL).ownBlock ≠ some b) ⟨e.key, trim e.c n⟩ [.string e.key, .slice P8 k c8]) := key_mk (e := ⟨e.key, trim e.c n⟩) (HS8.out.mono fun b hb => ⟨by omega, fun e => by have := HOWN.out b e; omega⟩)
          obtain ⟨z8, hz8⟩ : ∃ z8, w8.heap.size = z8 := ⟨_, rfl⟩
          have hzz : z ≤ w8.heap.size := by omega
          clear h0 ht hlen HT1 HT2
          go_wp2_with (at_builtin
                       go_loud (refine wpList_app1 (o := ⟨some 49, _, _, _, _, _⟩) (t := tKey) (w0 := w8) (g := z8) (cs := [.string e.key, .slice P8 k c8]) (y := ⟨e.key, trim e.c n⟩) z rfl _ _ 51 88 _ 40 rfl Try.underlying51 info88 rfl (by decide) (by decide) rfl hz8 rfl HO8.out hKk.out (Below.refl _ _) ?c2 ?c3 ?_)
                       (case c2 => go_loud (exact hzz))
                       (case c3 => go_loud (rw [HLE.out]; omega))
                       intro v9 w9 hO9 hB9 hg9 hv9
                       go_loud (obtain ⟨P9, c9, rfl, -⟩ := hO9.form)
                       obtain ⟨k9, hk9⟩ : ∃ q, (trims (S.ents.take j) n ++ [(⟨e.key, trim e.c n⟩ : Ent)]).length = q := ⟨_, rfl⟩
                       go_loud (rw [hk9] at hO9 hv9 ⊢)
                       have hk9' : k9 = len + 1 := by rw [← hk9, List.length_append, HLE.out]; rfl
                       go_loud (have HB9 := Lib.hid (HB8.out.trans hB9))
                       have HO9 := Lib.hid hO9
                       go_loud (clear hO9 hB9 hg9 hv9 hk9)
                       subst hk9')
          have R : Hid (Own tKey w9 z 88 (fun b => z ≤ b) (.slice P9 (len + 1) c9) (trims (S.ents.take (j + 1)) n)) := by
            show Own _ _ _ _ _ _ _
            rw [HT.out]
            exact HO9.out
          clear HO9 HO8 HT HLE y0 hKk HB8
          go_roundw
          case rel => exact ⟨j + 1, P9, len + 1, c9, by go_num, by omega, rfl, by omega, R, HB9⟩
          case measure => simp [intOf]; omega
      · obtain rfl : j = q := by omega
        have hO1 := hO.out
        rw [List.take_of_length_le (l := S.ents) (by rw [HN.out]; exact Nat.le_refl _)] at hO1
        have HO1 := Lib.hid hO1
        have d0 := (HBL.out.below hB.out hrz).cell 0
        have d1 := (HBL.out.below hB.out hrz).frozen 0
        clear hO hO1
        have HH2 := HH.out
        rw [← HN.out] at HH2
        go_wp2
        go_ret
        have hd := rcoll_done HH2 HZ.out HNO.out HW1.out hB.out HO1.out
        rw [HS2.out] at hd
        exact ⟨rfl, _, _, hd⟩
end Go.Proofs.Ytnleldogmogkgaa
