import Derived.Test.YtnleldogmogkgaaW37
/-! What the document's store is asked. -/
namespace Go.Proofs.Ytnleldogmogkgaa
open Go.RowKit Go.Op

theorem any_take {α : Type} {f : α → Bool} {l : List α} {j : Nat} {a : α} (ha : l[j]? = some a) : (l.take (j + 1)).any f = ((l.take j).any f || f a) := by
  rw [List.take_add_one, ha, List.any_append]; simp
theorem any_hit {α : Type} {f : α → Bool} {l : List α} {j : Nat} {a : α} (ha : l[j]? = some a) (h : f a = true) : l.any f = true := List.any_eq_true.2 ⟨a, List.mem_of_getElem? ha, h⟩

set_option maxHeartbeats 2000000 in
theorem rwithin_calls (rb : Nat) (v : Value) (X : List Nat) (S : Sto) (x y : ByteArray) (n : Int) (w : World) (h : Rst w rb v X S) :
    Calls Try.prog 28 #[.pointer (some ⟨rb, 0, none⟩), .string x, .string y, .int .i64 n] w fun e w' => e = .returned (.bool (within S.ents x y n)) ∧ Below w.heap.size w w' := by
  obtain ⟨c0, -, -⟩ := h.cells
  obtain ⟨A, c, rfl, hs⟩ := h.sl
  obtain ⟨hln, hcap, hcm⟩ := hs.length
  obtain ⟨q, hq⟩ : ∃ q, S.ents.length = q := ⟨_, rfl⟩
  have hn0 := h.few
  rw [hq] at hs c0 hcap hn0
  obtain ⟨r, hr⟩ : ∃ r, within S.ents x y n = r := ⟨_, rfl⟩
  have hW : S.ents.any (fun e => inR x y e.key && decide (0 < since e.c n)) = r := hr
  rw [hr]
  have HW := Lib.hid hW
  have HN := Lib.hid hq
  have HS := Lib.hid hs
  have HOK := Lib.hid h.ok
  have HLA := Lib.hid h.last
  have HX0 := Lib.hid (Below.refl w.heap.size w)
  clear h hs hq hln hr hW
  go_enter Try.func28, Try.ntmps28
  go_wp2
  go_loopw [16] (fun i wr => ∃ j : Nat, i = .int .i64 j ∧ j ≤ q ∧ Hid ((S.ents.take j).any (fun e => inR x y e.key && decide (0 < since e.c n)) = false) ∧ Hid (Below w.heap.size w wr)) (fun i _ => q - (intOf i).toNat)
  case atStart => exact ⟨0, rfl, by omega, rfl, HX0⟩
  case round =>
    obtain ⟨j, rfl, hj, hA, hB⟩ := hrel
    clear HX0
    by_cases hlt : j < q
    · obtain ⟨e, he⟩ := some_at (show j < S.ents.length by rw [HN.out]; exact hlt)
      obtain ⟨b, off, P, m, cp, rfl, hbl, x0, x1, hP⟩ := sl_key (HS.out.below hB.out) he
      obtain ⟨w7, hw7⟩ : ∃ w7, wr.alloc (.cells #[.string e.key, .slice P m cp] 88) = w7 := ⟨_, rfl⟩
      have hb7 : Below wr.heap.size wr w7 := by rw [← hw7]; exact (Below.refl _ _).alloc (Nat.le_refl _) _
      have hV7 : Blk w7 wr.heap.size #[.string e.key, .slice P m cp] 88 := by rw [← hw7]; exact Blk.new _ _ _
      have HB7 := Lib.hid (hB.out.trans (hb7.mono hB.out.size))
      have HSI := Lib.hid (rsince_calls e.c P m cp n w7 (hP.below hb7))
      have HE := Lib.hid he
      have y0 := hV7.cell 0
      have y1 := hV7.cell 1
      clear hb7 hV7 hP he
      cases h5 : klt e.key x
      · cases h6 : klt e.key y
        · have h5' : bytesLess e.key.toList x.toList = false := h5
          have h6' : bytesLess e.key.toList y.toList = false := h6
          have R : Hid ((S.ents.take (j + 1)).any (fun e => inR x y e.key && decide (0 < since e.c n)) = false) := by show _ = _; rw [any_take HE.out, hA.out]; simp [inR, h6]
          clear h5 h6 HSI
          go_wp2_with fail
          go_roundw
          case rel => exact ⟨j + 1, by go_num, by omega, R, HB7⟩
          case measure => simp [intOf]; omega
        · obtain ⟨k, hk⟩ : ∃ k, since e.c n = k := ⟨_, rfl⟩
          rw [hk] at HSI
          have h5' : bytesLess e.key.toList x.toList = false := h5
          have h6' : bytesLess e.key.toList y.toList = true := h6
          rcases Nat.eq_zero_or_pos k with h0 | h0
          · subst h0
            have R : Hid ((S.ents.take (j + 1)).any (fun e => inR x y e.key && decide (0 < since e.c n)) = false) := by show _ = _; rw [any_take HE.out, hA.out]; simp [inR, hk]
            clear h5 h6 hk
            go_wp2_with fail
            refine HSI.out.mono ?_
            rintro e8 w8 ⟨rfl, hb8⟩
            have HB8 := Lib.hid (HB7.out.trans (hb8.mono HB7.out.size))
            clear hb8 HSI y0 y1
            go_wp2
            go_roundw
            case rel => exact ⟨j + 1, by go_num, by omega, R, HB8⟩
            case measure => simp [intOf]; omega
          · have R : Hid (r = true) := by
              show _ = _
              rw [← HW.out]
              exact any_hit HE.out (by simp [inR, h5, h6, hk, h0])
            have h1 : decide (0 < k) = true := decide_eq_true h0
            clear h5 h6 hk h0
            go_wp2_with fail
            refine HSI.out.mono ?_
            rintro e8 w8 ⟨rfl, hb8⟩
            have HB8 := Lib.hid (HB7.out.trans (hb8.mono HB7.out.size))
            clear hb8 HSI y0 y1
            go_wp2
            go_ret
            exact ⟨ret_bool R.out.symm, HB8.out⟩
      · have h5' : bytesLess e.key.toList x.toList = true := h5
        have R : Hid ((S.ents.take (j + 1)).any (fun e => inR x y e.key && decide (0 < since e.c n)) = false) := by show _ = _; rw [any_take HE.out, hA.out]; simp [inR, h5]
        clear h5 HSI
        go_wp2_with fail
        go_roundw
        case rel => exact ⟨j + 1, by go_num, by omega, R, HB7⟩
        case measure => simp [intOf]; omega
    · obtain rfl : j = q := by omega
      have hA0 := hA.out
      rw [List.take_of_length_le (by rw [HN.out]; exact Nat.le_refl _), HW.out] at hA0
      subst hA0
      go_wp2
      go_ret
      exact ⟨rfl, hB.out⟩
end Go.Proofs.Ytnleldogmogkgaa
