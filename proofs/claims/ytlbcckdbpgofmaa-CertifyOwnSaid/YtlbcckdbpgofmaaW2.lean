import Derived.Test.YtlbcckdbpgofmaaW1
/-! The document's Touches; whether keys rise. -/
namespace Go.Proofs.Ytlbcckdbpgofmaa
open Go.RowKit Go.Op

theorem hit_no (k t : ByteArray) (ps : List Pair) (p : Pair) : hit ⟨false, k, t, ps⟩ p = (p.key.toList == k.toList) := rfl
theorem hit_yes (k t : ByteArray) (ps : List Pair) (p : Pair) : hit ⟨true, k, t, ps⟩ p = (!bytesLess p.key.toList k.toList && bytesLess p.key.toList t.toList) := rfl

set_option maxHeartbeats 1000000 in
/-- The document's Touches. -/
theorem rtouches_calls (s sn : Int) (st : Bool) (R : Option Addr) (nr cr : Nat) (W : Option Addr) (nw cw : Nat) (sc : Bool) (k t : ByteArray) (ps : List Pair) (P : Option Addr) (np cp : Nat) (l : List Pair) (w : World) (hl : Sl tPair w (fun _ => True) (.slice W nw cw) l) :
    Calls Try.prog 20 #[.agg #[.int .i64 s, .int .i64 sn, .bool st, .slice R nr cr, .slice W nw cw], .agg #[.bool sc, .string k, .string t, .slice P np cp]] w fun e w' => e = .returned (.bool (touches l ⟨sc, k, t, ps⟩)) ∧ Below w.heap.size w w' := by
  obtain ⟨hln, hcap, hm⟩ := hl.length
  have H := Lib.hid hl
  clear hl
  have hb0 : Below w.heap.size w ((w.alloc (.cells #[.int .i64 s, .int .i64 sn, .bool st, .slice R nr cr, .slice W nw cw] 25)).alloc (.cells #[.bool sc, .string k, .string t, .slice P np cp] 41)) := ((Below.refl _ _).alloc (Nat.le_refl _) _).alloc (by simp) _
  have HB := Lib.hid hb0
  clear hb0
  have HC : Hid (∀ W', Below (w.heap.size + 2) ((w.alloc (.cells #[.int .i64 s, .int .i64 sn, .bool st, .slice R nr cr, .slice W nw cw] 25)).alloc (.cells #[.bool sc, .string k, .string t, .slice P np cp] 41)) W' →
      W'.cell? ⟨w.heap.size + 1, 0, none⟩ = some (.bool sc) ∧ W'.cell? ⟨w.heap.size + 1, 1, none⟩ = some (.string k) ∧ W'.cell? ⟨w.heap.size + 1, 2, none⟩ = some (.string t)) := fun W' h => by
    obtain ⟨hc, -⟩ := bcell h
    refine ⟨?_, ?_, ?_⟩ <;> rw [hc _ _ (by omega)] <;> simp [go_sem]
  have HZ : Hid (Below (w.heap.size + 2) ((w.alloc (.cells #[.int .i64 s, .int .i64 sn, .bool st, .slice R nr cr, .slice W nw cw] 25)).alloc (.cells #[.bool sc, .string k, .string t, .slice P np cp] 41)) ((w.alloc (.cells #[.int .i64 s, .int .i64 sn, .bool st, .slice R nr cr, .slice W nw cw] 25)).alloc (.cells #[.bool sc, .string k, .string t, .slice P np cp] 41))) := Below.refl _ _
  have HS : Hid (((w.alloc (.cells #[.int .i64 s, .int .i64 sn, .bool st, .slice R nr cr, .slice W nw cw] 25)).alloc (.cells #[.bool sc, .string k, .string t, .slice P np cp] 41)).heap.size = w.heap.size + 2) := by show _ = _; simp
  go_enter Try.func20, Try.ntmps20
  go_wp2
  generalize (w.alloc (.cells #[.int .i64 s, .int .i64 sn, .bool st, .slice R nr cr, .slice W nw cw] 25)).alloc (.cells #[.bool sc, .string k, .string t, .slice P np cp] 41) = w0 at *
  go_loopw [10] (fun i w' => ∃ (j : Nat), j ≤ nw ∧ i = .int .i64 j ∧ Hid (touches l ⟨sc, k, t, ps⟩ = (l.drop j).any (hit ⟨sc, k, t, ps⟩)) ∧ Below (w.heap.size + 2) w0 w')
    (fun i _ => nw - (intOf i).toNat)
  case atStart => exact ⟨0, by omega, rfl, rfl, HZ.out⟩
  case round =>
    obtain ⟨j, hj, rfl, hg, hb⟩ := hrel
    have hz : w.heap.size + 2 ≤ wr.heap.size := by rw [← HS.out]; exact hb.size
    have hz1 : w.heap.size + 1 < wr.heap.size := by omega
    have hbw : Below w.heap.size w wr := HB.out.trans (hb.mono (by omega))
    by_cases hlt : j < nw
    · obtain ⟨x, hx⟩ := some_at (show j < l.length by omega)
      obtain ⟨b, off, rfl, hbl, h0, h1, h2⟩ := sl_pair (H.out.below hbw) hx
      obtain ⟨e0, e1, e2⟩ := HC.out _ hb
      have hs := Lib.hid (any_step hg.out hx)
      clear hx hg
      have hb' := hb.alloc (o := .cells #[.string x.key, .string x.val, .bool x.dead] 37) hz
      have hbw' := hbw.alloc (o := .cells #[.string x.key, .string x.val, .bool x.dead] 37) (by omega)
      have Hb' := Lib.hid hb'
      have Hbw' := Lib.hid hbw'
      clear hb' hbw' hb hbw
      cases sc
      · cases he : x.key.toList == k.toList
        · go_wp2
          go_roundw
          case rel => exact ⟨j + 1, by omega, by go_num, (show _ = _ by rw [hs.out, hit_no, he]; rfl), Hb'.out⟩
          case measure => simp [intOf]; omega
        · go_wp2
          go_ret
          exact ⟨ret_bool (by rw [hs.out, hit_no, he]; rfl), Hbw'.out⟩
      · cases he : bytesLess x.key.toList k.toList
        · cases hf : bytesLess x.key.toList t.toList
          · go_wp2
            go_roundw
            case rel => exact ⟨j + 1, by omega, by go_num, (show _ = _ by rw [hs.out, hit_yes, he, hf]; rfl), Hb'.out⟩
            case measure => simp [intOf]; omega
          · go_wp2
            go_ret
            exact ⟨ret_bool (by rw [hs.out, hit_yes, he, hf]; rfl), Hbw'.out⟩
        · go_wp2
          go_roundw
          case rel => exact ⟨j + 1, by omega, by go_num, (show _ = _ by rw [hs.out, hit_yes, he]; rfl), Hb'.out⟩
          case measure => simp [intOf]; omega
    · go_wp2
      go_ret
      exact ⟨ret_bool (any_end hg.out (by omega)), hbw⟩

theorem sorted_calls (l : List Pair) (A : Option Addr) (n cap : Nat) (w : World) (hl : Sl tPair w (fun _ => True) (.slice A n cap) l) :
    Calls Try.prog 42 #[.slice A n cap, .func (.func 43) #[] #[]] w fun e w' => e = .returned (.bool (rises l)) ∧ Below w.heap.size w w' := by
  obtain ⟨hln, hcap, hm⟩ := hl.length
  have H := Lib.hid hl
  clear hl
  go_enter Try.func42, Try.ntmps42
  go_wp2
  go_loopw [5] (fun i w' => ∃ (j : Int), -1 ≤ j ∧ j < n ∧ i = .int .i64 j ∧ Hid (∀ (a : Nat) x y, j < (a : Int) + 1 → l[a]? = some x → l[a + 1]? = some y → bytesLess y.key.toList x.key.toList = false) ∧ Below w.heap.size w w')
    (fun i _ => (intOf i + 1).toNat)
  case atStart => 
    refine ⟨(n : Int) - 1, by omega, by omega, rfl, ?_, Below.refl _ _⟩
    intro a x y ha hx hy
    have := (List.getElem?_eq_some_iff.1 hy).1
    omega
  case round =>
    obtain ⟨j, hj, hjn, rfl, hg, hb⟩ := hrel
    by_cases hlt : 0 < j
    · obtain ⟨i, rfl⟩ : ∃ i : Nat, j = (i : Int) + 1 := ⟨(j - 1).toNat, by omega⟩
      obtain ⟨x, hx⟩ := some_at (show i < l.length by omega)
      obtain ⟨y, hy⟩ := some_at (show i + 1 < l.length by omega)
      obtain ⟨b, off, rfl, hbl, h0, h1, h2⟩ := sl_pair (H.out.below hb) hx
      obtain ⟨b', off', hbe, hbl', g0, g1, g2⟩ := sl_pair (H.out.below hb) hy
      injection hbe with hbe
      injection hbe with hb1 hb2
      subst hb1 hb2
      have hs : Hid (∀ W', Calls Try.prog 43 #[.agg #[.string y.key, .string y.val, .bool y.dead], .agg #[.string x.key, .string x.val, .bool x.dead]] W' fun e w' => e = .returned (.int .i64 (if bytesLess y.key.toList x.key.toList then -1 else 1)) ∧ Below W'.heap.size W' w') := fun W' => cmp_calls y x W'
      have hex : Hid (bytesLess y.key.toList x.key.toList = false → ∀ (a : Nat) x y, (i : Int) < (a : Int) + 1 → l[a]? = some x → l[a + 1]? = some y → bytesLess y.key.toList x.key.toList = false) := by
        intro he a x' y' ha hx' hy'
        by_cases hai : a = i
        · subst hai
          rw [hx] at hx'; rw [hy] at hy'
          injection hx' with e1; injection hy' with e2
          rw [← e1, ← e2]; exact he
        · exact hg.out a x' y' (by omega) hx' hy'
      have hno : Hid (bytesLess y.key.toList x.key.toList = true → rises l = false) := fun he => by
        cases hr : rises l
        · rfl
        · rw [rises_iff.1 hr i x y hx hy] at he; cases he
      clear hx hy hg
      cases he : bytesLess y.key.toList x.key.toList
      all_goals
        rw [he] at hs hex hno
        clear he
        simp only [if_true, Bool.false_eq_true, if_false] at hs
        go_wp2
        refine wp_region_later (by kernel_rfl) (by kernel_rfl) ?_
        repeat (go_big_quiet_step ((go_at_call 43; exact calls_later (hs.out _))))
        refine wpQuiet_nil ?_
        rintro _ ⟨e, rfl⟩
        have hb' := hb.trans ((later_below e).mono hb.size)
        generalize later _ e = w1 at *
        go_wp2
      · go_roundw
        case rel => exact ⟨i, by omega, by omega, by go_num, hex.out (by simp), hb'⟩
        case measure => simp [intOf]; omega
      · go_ret
        exact ⟨ret_bool (by rw [hno.out (by simp)]), hb'⟩
    · go_wp2
      go_ret
      refine ⟨ret_bool ?_, hb⟩
      exact (rises_iff.2 fun a x y hx hy => hg.out a x y (by omega) hx hy).symm
end Go.Proofs.Ytlbcckdbpgofmaa
