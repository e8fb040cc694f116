import Derived.Test.YtidfogcilegloaaB5
namespace Go.Proofs.Ytidfogcilegloaa.B
open Go.RowKit Go.Op

set_option maxRecDepth 100000 in
theorem writes_calls (pb mb : Nat) (l : List Pair) (w : World) (h : Buf w pb mb l) :
    Calls Try.prog 30 #[.pointer (some ⟨pb, 0, none⟩)] w fun e w' => ∃ v, e = .returned v ∧ Sl tPair w' (fun b => w.heap.size ≤ b) v l ∧ Below w.heap.size w w' := by
  have HW := Lib.hid (within_all pb mb l w h)
  clear h
  go_enter Try.func30, Try.ntmps30
  go_wp2_with fail
  refine HW.out.mono ?_
  rintro e w' ⟨v, rfl, h1, h2⟩
  have H1 := Lib.hid h1
  clear h1
  go_wp2
  go_ret
  exact ⟨_, rfl, H1.out, h2⟩

def over (L l : List Pair) (x y : ByteArray) (most : Int) : List Pair := (overlay l (L.filter fun p => inR x y p.key)).take (max most 0).toNat
set_option maxRecDepth 100000 in
set_option maxHeartbeats 1000000 in
theorem over_calls (pb mb : Nat) (L l : List Pair) (A : Option Addr) (n c : Nat) (x y : ByteArray) (most : Int) (w : World) (h : Buf w pb mb L) (hl : Sl tPair w (fun _ => True) (.slice A n c) l) (hn : n ≤ 100000) :
    Calls Try.prog 35 #[.pointer (some ⟨pb, 0, none⟩), .slice A n c, .string x, .string y, .int .i64 most] w fun e w' => ∃ v, e = .returned v ∧ Sl tPair w' (fun b => w.heap.size ≤ b) v (over L l x y most) ∧ Below w.heap.size w w' := by
  have hb2 := ((Below.refl w.heap.size w).alloc (Nat.le_refl _) (.cells #[.string x] 9)).alloc (by simp) (.cells #[.string y] 9)
  have hX : Blk ((w.alloc (.cells #[.string x] 9)).alloc (.cells #[.string y] 9)) w.heap.size #[.string x] 9 := (Blk.new w _ 9).alloc _
  have hY : Blk ((w.alloc (.cells #[.string x] 9)).alloc (.cells #[.string y] 9)) (w.heap.size + 1) #[.string y] 9 := by
    have := Blk.new (w.alloc (.cells #[.string x] 9)) #[.string y] 9
    simpa only [World.size_alloc] using this
  have HW := Lib.hid (within_range pb mb L w.heap.size (w.heap.size + 1) x y _ (h.below hb2) hX hY)
  obtain ⟨F, hF⟩ : ∃ F, L.filter (fun p => inR x y p.key) = F := ⟨_, rfl⟩
  have hFl : F.length ≤ 64 := by rw [← hF]; exact Nat.le_trans (List.length_filter_le _ _) h.len
  unfold over
  rw [hF] at HW ⊢
  have HL : Hid (Sl tPair ((w.alloc (.cells #[.string x] 9)).alloc (.cells #[.string y] 9)) (fun _ => True) (.slice A n c) l) := hl.below hb2
  have HB := Lib.hid hb2
  clear h hl hX hY hb2 hF
  go_enter Try.func35, Try.ntmps35
  go_wp2_with fail
  refine HW.out.mono ?_
  rintro e w2 ⟨v, rfl, h1, h2⟩
  obtain ⟨A2, c2, rfl, -⟩ := h1.form
  have HO := Lib.hid (overlay_calls l F A A2 n c F.length c2 w2 (HL.out.below h2) (h1.mono fun _ _ => trivial) hn (by omega))
  have HB2 := Lib.hid (HB.out.trans (h2.mono (by simp; omega)))
  clear HW h1 h2 HL HB
  go_wp2_with fail
  refine HO.out.mono ?_
  rintro e w3 ⟨v, rfl, h3, h4⟩
  obtain ⟨A3, c3, rfl, -⟩ := h3.form
  obtain ⟨k, hk⟩ : ∃ k, (overlay l F).length = k := ⟨_, rfl⟩
  rw [hk] at h3
  have hz3 := HB2.out.size
  have hlen3 := h3.length
  have hsl := fun j (hj : j ≤ c3) W' => run_slice_hi (P := Try.prog) (sz := 3) Try.underlying32 (by kernel_rfl) A3 (n := k) (k := j) hj W'
  have H3 := Lib.hid h3
  have H4 := Lib.hid (HB2.out.trans (h4.mono (by omega)))
  rw [hk]
  obtain ⟨hl3, hk3, -⟩ := hlen3
  have HLL := Lib.hid hl3
  clear HO h3 h4 hk hl3
  clear hsl
  go_wp2
  go_ret
  refine ⟨_, rfl, ?_, H4.out⟩
  have h := H3.out.take (k := (min (k : Int) (max most 0)).toNat) (by omega)
  have e : (overlay l F).take (min (k : Int) (max most 0)).toNat = (overlay l F).take (max most 0).toNat := by
    by_cases hk : (k : Int) ≤ max most 0
    · rw [List.take_of_length_le (by rw [HLL.out]; omega), List.take_of_length_le (by rw [HLL.out]; omega)]
    · congr 1; omega
  rw [e] at h
  exact h.mono fun b hb => by omega

abbrev setP (W : World) (z : Nat) (p : Pair) (b : Bool) : World := ((W.setCell ⟨z, 0, none⟩ (.string p.key)).setCell ⟨z, 1, none⟩ (.string p.val)).setCell ⟨z, 2, none⟩ (.bool b)
theorem setP_heap (W : World) (z : Nat) (p : Pair) (b : Bool) {k : Nat} (hk : k ≠ z) : (setP W z p b).heap[k]? = W.heap[k]? :=
  (Below.heap_setCell _ _ _ _ hk).trans ((Below.heap_setCell _ _ _ _ hk).trans (Below.heap_setCell _ _ _ _ hk))
theorem setP_below {B z : Nat} {w W : World} (h : Below B w W) (hz : B ≤ z) (p : Pair) (b : Bool) : Below B w (setP W z p b) :=
  ((h.setCell (p := ⟨z, 0, none⟩) hz _).setCell (p := ⟨z, 1, none⟩) hz _).setCell (p := ⟨z, 2, none⟩) hz _
/-- The document's Overlay goes by places. -/
theorem drop_cons {α : Type} {l : List α} {i : Nat} {x : α} (h : l[i]? = some x) : l.drop i = x :: l.drop (i + 1) := by
  obtain ⟨h1, rfl⟩ := List.getElem?_eq_some_iff.1 h
  exact List.drop_eq_getElem_cons h1

end Go.Proofs.Ytidfogcilegloaa.B
