import Derived.Test.YtlbcckdbpgofmaaW3
/-! Is there a write of a range? -/
namespace Go.Proofs.Ytlbcckdbpgofmaa
open Go.RowKit Go.Op

theorem rises_calls (s sn : Int) (st : Bool) (R : Option Addr) (nr cr : Nat) (W : Option Addr) (nw cw : Nat) (l : List Pair) (w : World) (hl : Sl tPair w (fun _ => True) (.slice W nw cw) l) :
    Calls Try.prog 39 #[.agg #[.int .i64 s, .int .i64 sn, .bool st, .slice R nr cr, .slice W nw cw]] w fun e w' => e = .returned (.bool (rises l)) ∧ Below w.heap.size w w' := by
  have hb0 : Below w.heap.size w (w.alloc (.cells #[.int .i64 s, .int .i64 sn, .bool st, .slice R nr cr, .slice W nw cw] 25)) := (Below.refl _ _).alloc (Nat.le_refl _) _
  have HC := Lib.hid (sorted_calls l W nw cw _ (hl.below hb0))
  have HB := Lib.hid hb0
  clear hb0 hl
  go_enter Try.func39, Try.ntmps39
  go_wp2_with fail
  refine HC.out.mono ?_
  rintro e w' ⟨rfl, hb⟩
  go_wp2
  go_ret
  exact ⟨rfl, HB.out.trans (hb.mono HB.out.size)⟩

/-- Search: the first number at which a test that rises says yes. The test: a function value over captured variables. -/
theorem search_calls (n : Nat) (F : Nat) (cap : Array Value) (p : Nat → Bool) (w : World) (hn : n ≤ 4611686018427387904)
    (hcf : ∀ (x : Value) (W : World), (callFunc F (#[x] ++ cap)).run Try.prog W = .ok (.enter F (#[x] ++ cap)) W)
    (hF : ∀ (i : Nat) (W : World), i < n → Below w.heap.size w W → Calls Try.prog F (#[.int .i64 i] ++ cap) W fun e W' => e = .returned (.bool (p i)) ∧ Below w.heap.size W W')
    (hp : ∀ i j, i ≤ j → j < n → p i = true → p j = true) :
    Calls Try.prog 44 #[.int .i64 n, .func (.func F) #[] cap] w fun e w' => ∃ r : Nat, e = .returned (.int .i64 r) ∧ r ≤ n ∧ (∀ i, i < r → p i = false) ∧ (∀ i, r ≤ i → i < n → p i = true) ∧ Below w.heap.size w w' := by
  have HF := Lib.hid hF
  have HP := Lib.hid hp
  clear hF hp
  go_enter Try.func44, Try.ntmps44
  go_wp2
  go_loopw [5, 6, 7] (fun i j _ w' => ∃ a b : Nat, a ≤ b ∧ b ≤ n ∧ i = .int .i64 a ∧ j = .int .i64 b ∧ Hid (∀ i, i < a → p i = false) ∧ Hid (∀ i, b ≤ i → i < n → p i = true) ∧ Below w.heap.size w w')
    (fun i j _ _ => (intOf j).toNat - (intOf i).toNat)
  case atStart => exact ⟨0, n, by omega, by omega, rfl, rfl, fun i hi => by omega, fun i h1 h2 => by omega, Below.refl _ _⟩
  case round =>
    obtain ⟨a, b, hab, hbn, rfl, rfl, h1, h2, hb⟩ := hrel
    by_cases hlt : a < b
    · have hF1 := Lib.hid (HF.out ((a + b) / 2) wr (by omega) hb)
      have ec : (((a + b) / 2 : Nat) : Int) = ((a : Int) + b) / 2 := by omega
      rw [ec] at hF1
      clear ec
      cases hp : p ((a + b) / 2)
      · rw [hp] at hF1
        go_wp2_with (refine hF1.out.mono ?_; rintro e w' ⟨rfl, hb'⟩)
        refine ⟨⟨(a + b) / 2 + 1, b, by omega, hbn, by go_num, rfl, ?_, h2, hb.trans hb'⟩, by simp [intOf]; omega⟩
        intro i hi
        cases hq : p i
        · rfl
        · exact absurd (HP.out i ((a + b) / 2) (by omega) (by omega) hq) (by simp [hp])
      · rw [hp] at hF1
        go_wp2_with (refine hF1.out.mono ?_; rintro e w' ⟨rfl, hb'⟩)
        refine ⟨⟨a, (a + b) / 2, by omega, by omega, rfl, by go_num, h1, fun i hi hn' => HP.out _ _ hi hn' hp, hb.trans hb'⟩, by simp [intOf]; omega⟩
    · go_wp2
      go_ret
      have : a = b := by omega
      subst this
      exact ⟨a, rfl, hbn, h1, h2, hb⟩

/-- from's test: over the boxes of the record and of the key. -/
theorem below_test (l : List Pair) (A : Option Addr) (n cap : Nat) (k : ByteArray) (g h : Nat) (i : Nat) (x : Pair) (w : World) (hl : Sl tPair w (fun _ => True) (.slice A n cap) l)
    (hg : w.cell? ⟨g, 4, none⟩ = some (.slice A n cap)) (hh : w.cell? ⟨h, 0, none⟩ = some (.string k)) (hx : l[i]? = some x) :
    Calls Try.prog 45 #[.int .i64 i, .pointer (some ⟨g, 0, none⟩), .pointer (some ⟨h, 0, none⟩)] w fun e w' => e = .returned (.bool (!bytesLess x.key.toList k.toList)) ∧ Below w.heap.size w w' := by
  obtain ⟨hln, hcap, hm⟩ := hl.length
  have hi : i < n := by have := (List.getElem?_eq_some_iff.1 hx).1; omega
  obtain ⟨b, off, rfl, -, h0, h1, h2⟩ := sl_pair hl hx
  clear hl hx
  have hi0 : (0 : Int) ≤ (i : Int) := by omega
  have hi1 : (i : Int) < (n : Int) := by omega
  go_enter Try.func45, Try.ntmps45
  go_wp2
  go_quiet (fail)
  go_wp2
  go_ret
  exact ⟨rfl, below_drewN (Below.refl _ _) _⟩

theorem from_calls (s sn : Int) (st : Bool) (R : Option Addr) (nr cr : Nat) (W : Option Addr) (nw cw : Nat) (l : List Pair) (k : ByteArray) (w : World) (hl : Sl tPair w (fun _ => True) (.slice W nw cw) l) (hr : rises l = true) (hn : nw ≤ 4611686018427387904) :
    Calls Try.prog 40 #[.agg #[.int .i64 s, .int .i64 sn, .bool st, .slice R nr cr, .slice W nw cw], .string k] w fun e w' => ∃ r : Nat, e = .returned (.int .i64 r) ∧ r ≤ nw ∧ (∀ j x, j < r → l[j]? = some x → bytesLess x.key.toList k.toList = true) ∧ (∀ j x, r ≤ j → l[j]? = some x → bytesLess x.key.toList k.toList = false) ∧ Below w.heap.size w w' := by
  obtain ⟨hln, hcap, hm⟩ := hl.length
  have hb1 : Below w.heap.size w ((w.alloc (.cells #[.int .i64 s, .int .i64 sn, .bool st, .slice R nr cr, .slice W nw cw] 25)).alloc (.cells #[.string k] 9)) := ((Below.refl _ _).alloc (Nat.le_refl _) _).alloc (by simp) _
  have H := Lib.hid (hl.below hb1)
  have HB := Lib.hid hb1
  have HR := Lib.hid hr
  clear hl hr hb1
  go_enter Try.func40, Try.ntmps40
  go_wp2_with fail
  refine (search_calls nw 45 _ (fun i => !bytesLess (l.getD i Pair.zero).key.toList k.toList) _ hn (fun _ _ => by rfl) ?_ ?_).mono ?_
  · intro i W' hi hW
    obtain ⟨x, hx⟩ := some_at (show i < l.length by omega)
    have := below_test l W nw cw k w.heap.size (w.heap.size + 1) i x W' (H.out.below hW) ?_ ?_ hx
    · rw [show l.getD i Pair.zero = x by rw [List.getD_eq_getElem?_getD, hx]; rfl]
      refine this.mono fun e W' h => ⟨h.1, h.2.mono ?_⟩
      have := hW.size
      exact this
    · rw [(bcell hW).1 _ _ (by simp; omega)]
      simp [go_sem]
    · rw [(bcell hW).1 _ _ (by simp)]
      simp [go_sem]
  · intro i j hij hj h
    obtain ⟨y, hy⟩ := some_at (show j < l.length by omega)
    obtain ⟨x, hx⟩ := some_at (show i < l.length by omega)
    simp only [List.getD_eq_getElem?_getD, hx, hy, Option.getD_some, Bool.not_eq_true'] at h ⊢
    exact bl_up h (rises_mono HR.out hij hx hy)
  · rintro e w' ⟨r, rfl, hr, h1, h2, hb⟩
    have h3 : Hid (∀ j x, j < r → l[j]? = some x → bytesLess x.key.toList k.toList = true) := fun j x hj hx => by
      have := h1 j hj
      simpa [List.getD_eq_getElem?_getD, hx] using this
    have h4 : Hid (∀ j x, r ≤ j → l[j]? = some x → bytesLess x.key.toList k.toList = false) := fun j x hj hx => by
      have := h2 j hj (by have := (List.getElem?_eq_some_iff.1 hx).1; omega)
      simpa [List.getD_eq_getElem?_getD, hx] using this
    clear h1 h2
    go_wp2
    go_ret
    exact ⟨r, rfl, hr, h3.out, h4.out, HB.out.trans (hb.mono (by simp; omega))⟩

/-- within's test: over the box of the function. -/
theorem in_test (q : ByteArray → Bool) (F : Nat) (caps : Array Value) (g : Nat) (p : Pair) (w : World) (hg : w.cell? ⟨g, 0, none⟩ = some (.func (.func F) #[] caps))
    (hcf : ∀ (x : Value) (W : World), (callFunc F (#[x] ++ caps)).run Try.prog W = .ok (.enter F (#[x] ++ caps)) W)
    (hF : ∀ (W : World), Below w.heap.size w W → Calls Try.prog F (#[.string p.key] ++ caps) W fun e W' => e = .returned (.bool (q p.key)) ∧ Below W.heap.size W W') (hgl : g < w.heap.size) :
    Calls Try.prog 41 #[.agg #[.string p.key, .string p.val, .bool p.dead], .pointer (some ⟨g, 0, none⟩)] w fun e w' => e = .returned (.bool (q p.key)) ∧ Below w.heap.size w w' := by
  have hb0 : Below w.heap.size w (w.alloc (.cells #[.string p.key, .string p.val, .bool p.dead] 37)) := (Below.refl _ _).alloc (Nat.le_refl _) _
  have HF := Lib.hid (hF _ hb0)
  have HB := Lib.hid hb0
  clear hF hb0
  go_enter Try.func41, Try.ntmps41
  go_wp2_with (refine HF.out.mono ?_; rintro e w' ⟨rfl, hb⟩)
  go_ret
  exact ⟨rfl, HB.out.trans (hb.mono HB.out.size)⟩
end Go.Proofs.Ytlbcckdbpgofmaa
