import Derived.Test.YtlbcckdbpgofmaaW2
/-! The first that a test takes; the first write not below a key. -/
namespace Go.Proofs.Ytlbcckdbpgofmaa
open Go.RowKit Go.Op

theorem idx_hit {α : Type} {p : α → Bool} {l : List α} {j : Nat} {x : α} (h : ∀ a y, a < j → l[a]? = some y → p y = false) (hx : l[j]? = some x) (hp : p x = true) : idx p l = (j : Int) := by
  have ha : l.any p = true := List.any_eq_true.2 ⟨x, List.mem_of_getElem? hx, hp⟩
  rw [idx, ha, if_pos rfl]
  congr 1
  clear ha
  induction l generalizing j with
  | nil => simp at hx
  | cons y l ih =>
    cases j with
    | zero => simp at hx; subst hx; rw [List.takeWhile_cons, hp]; rfl
    | succ j =>
      have hy : p y = false := h 0 y (by omega) rfl
      rw [List.takeWhile_cons, hy]
      simp only [Bool.not_false, if_true, List.length_cons]
      rw [ih (j := j) (fun a z ha hz => h (a + 1) z (by omega) (by simpa using hz)) (by simpa using hx)]
theorem idx_miss {α : Type} {p : α → Bool} {l : List α} (h : ∀ (a : Nat) (y : α), l[a]? = some y → p y = false) : idx p l = -1 := by
  have ha : l.any p = false := by
    rw [List.any_eq_false]
    intro x hx
    obtain ⟨j, hj, rfl⟩ := List.getElem_of_mem hx
    simpa using h j _ (List.getElem?_eq_getElem hj)
  rw [idx, ha]; rfl
theorem idx_any {α : Type} (p : α → Bool) (l : List α) : decide (0 ≤ idx p l) = l.any p := by
  unfold idx
  cases l.any p
  · rfl
  · rw [if_pos rfl]; exact decide_eq_true (by omega)
theorem seen_more {α : Type} {p : α → Bool} {l : List α} {j : Nat} {x : α} (h : ∀ a y, a < j → l[a]? = some y → p y = false) (hx : l[j]? = some x) (hp : p x = false) : ∀ a y, a < j + 1 → l[a]? = some y → p y = false := by
  intro a y ha hy
  by_cases hj : a = j
  · subst hj; rw [hx] at hy; injection hy with e; rw [← e]; exact hp
  · exact h a y (by omega) hy

/-- The first pair that a test takes. -/
theorem index_pairs (q : Pair → Bool) (F : Nat) (caps : Array Value) (l : List Pair) (A : Option Addr) (n cap : Nat) (w : World) (hl : Sl tPair w (fun _ => True) (.slice A n cap) l)
    (hcf : ∀ (x : Value) (W : World), (callFunc F (#[x] ++ caps)).run Try.prog W = .ok (.enter F (#[x] ++ caps)) W)
    (hF : ∀ (p : Pair) (W : World), p ∈ l → Below w.heap.size w W → Calls Try.prog F (#[.agg #[.string p.key, .string p.val, .bool p.dead]] ++ caps) W fun e W' => e = .returned (.bool (q p)) ∧ Below W.heap.size W W') :
    Calls Try.prog 37 #[.slice A n cap, .func (.func F) #[] caps] w fun e w' => e = .returned (.int .i64 (idx q l)) ∧ Below w.heap.size w w' := by
  obtain ⟨hln, hcap, hm⟩ := hl.length
  have H := Lib.hid hl
  have HF := Lib.hid hF
  clear hl hF
  go_enter Try.func37, Try.ntmps37
  go_wp2
  go_loopw [8] (fun i w' => ∃ (j : Nat), j ≤ n ∧ i = .int .i64 j ∧ Hid (∀ a y, a < j → l[a]? = some y → q y = false) ∧ Below w.heap.size w w')
    (fun i _ => n - (intOf i).toNat)
  case atStart => exact ⟨0, by omega, rfl, fun a y ha => by omega, Below.refl _ _⟩
  case round =>
    obtain ⟨j, hj, rfl, hg, hb⟩ := hrel
    by_cases hlt : j < n
    · obtain ⟨x, hx⟩ := some_at (show j < l.length by omega)
      obtain ⟨b, off, rfl, hbl, h0, h1, h2⟩ := sl_pair (H.out.below hb) hx
      have hf := Lib.hid (HF.out x wr (List.mem_of_getElem? hx) hb)
      have hx' := Lib.hid hx
      clear hx
      cases hq : q x
      all_goals
        have hq' := Lib.hid hq
        rw [hq] at hf
        clear hq
        go_wp2_with (refine hf.out.mono ?_; rintro e w' ⟨rfl, hb'⟩)
      · go_roundw
        case rel => exact ⟨j + 1, by omega, by go_num, seen_more hg.out hx'.out hq'.out, hb.trans (hb'.mono hb.size)⟩
        case measure => simp [intOf]; omega
      · go_ret
        exact ⟨ret_int (idx_hit hg.out hx'.out hq'.out).symm, hb.trans (hb'.mono hb.size)⟩
    · go_wp2
      go_ret
      exact ⟨ret_int (idx_miss fun a y ha => hg.out a y (by have := (List.getElem?_eq_some_iff.1 ha).1; omega) ha).symm, hb⟩

/-- The first read that a test takes. -/
theorem index_reads (q : Rd → Bool) (F : Nat) (caps : Array Value) (l : List Rd) (A : Option Addr) (n cap : Nat) (w : World) (hl : Sl tRead w (fun _ => True) (.slice A n cap) l)
    (hcf : ∀ (x : Value) (W : World), (callFunc F (#[x] ++ caps)).run Try.prog W = .ok (.enter F (#[x] ++ caps)) W)
    (hF : ∀ (p : Rd) (P : Option Addr) (np cp : Nat) (W : World), p ∈ l → Below w.heap.size w W → Sl tPair W (fun _ => True) (.slice P np cp) p.pairs → Calls Try.prog F (#[.agg #[.bool p.scan, .string p.key, .string p.to, .slice P np cp]] ++ caps) W fun e W' => e = .returned (.bool (q p)) ∧ Below W.heap.size W W') :
    Calls Try.prog 38 #[.slice A n cap, .func (.func F) #[] caps] w fun e w' => e = .returned (.int .i64 (idx q l)) ∧ Below w.heap.size w w' := by
  obtain ⟨hln, hcap, hm⟩ := hl.length
  have H := Lib.hid hl
  have HF := Lib.hid hF
  clear hl hF
  go_enter Try.func38, Try.ntmps38
  go_wp2
  go_loopw [8] (fun i w' => ∃ (j : Nat), j ≤ n ∧ i = .int .i64 j ∧ Hid (∀ a y, a < j → l[a]? = some y → q y = false) ∧ Below w.heap.size w w')
    (fun i _ => n - (intOf i).toNat)
  case atStart => exact ⟨0, by omega, rfl, fun a y ha => by omega, Below.refl _ _⟩
  case round =>
    obtain ⟨j, hj, rfl, hg, hb⟩ := hrel
    by_cases hlt : j < n
    · obtain ⟨x, hx⟩ := some_at (show j < l.length by omega)
      obtain ⟨b, off, P, np, cp, rfl, hbl, h0, h1, h2, h3, hp⟩ := sl_read (H.out.below hb) hx
      have hf := Lib.hid (HF.out x P np cp wr (List.mem_of_getElem? hx) hb hp)
      have hx' := Lib.hid hx
      clear hx hp
      cases hq : q x
      all_goals
        have hq' := Lib.hid hq
        rw [hq] at hf
        clear hq
        go_wp2_with (refine hf.out.mono ?_; rintro e w' ⟨rfl, hb'⟩)
      · go_roundw
        case rel => exact ⟨j + 1, by omega, by go_num, seen_more hg.out hx'.out hq'.out, hb.trans (hb'.mono hb.size)⟩
        case measure => simp [intOf]; omega
      · go_ret
        exact ⟨ret_int (idx_hit hg.out hx'.out hq'.out).symm, hb.trans (hb'.mono hb.size)⟩
    · go_wp2
      go_ret
      exact ⟨ret_int (idx_miss fun a y ha => hg.out a y (by have := (List.getElem?_eq_some_iff.1 ha).1; omega) ha).symm, hb⟩

/-- The first record that a test takes. -/
theorem index_recs (q : Rec → Bool) (F : Nat) (caps : Array Value) (l : List Rec) (A : Option Addr) (n cap : Nat) (w : World) (hl : Sl tRec w (fun _ => True) (.slice A n cap) l)
    (hcf : ∀ (x : Value) (W : World), (callFunc F (#[x] ++ caps)).run Try.prog W = .ok (.enter F (#[x] ++ caps)) W)
    (hF : ∀ (p : Rec) (R : Option Addr) (nr cr : Nat) (U : Option Addr) (nw cw : Nat) (W : World), p ∈ l → Below w.heap.size w W → Sl tRead W (fun _ => True) (.slice R nr cr) p.reads → Sl tPair W (fun _ => True) (.slice U nw cw) p.writes →
      Calls Try.prog F (#[.agg #[.int .i64 p.sess, .int .i64 p.snap, .bool p.strict, .slice R nr cr, .slice U nw cw]] ++ caps) W fun e W' => e = .returned (.bool (q p)) ∧ Below W.heap.size W W') :
    Calls Try.prog 26 #[.slice A n cap, .func (.func F) #[] caps] w fun e w' => e = .returned (.int .i64 (idx q l)) ∧ Below w.heap.size w w' := by
  obtain ⟨hln, hcap, hm⟩ := hl.length
  have H := Lib.hid hl
  have HF := Lib.hid hF
  clear hl hF
  go_enter Try.func26, Try.ntmps26
  go_wp2
  go_loopw [8] (fun i w' => ∃ (j : Nat), j ≤ n ∧ i = .int .i64 j ∧ Hid (∀ a y, a < j → l[a]? = some y → q y = false) ∧ Below w.heap.size w w')
    (fun i _ => n - (intOf i).toNat)
  case atStart => exact ⟨0, by omega, rfl, fun a y ha => by omega, Below.refl _ _⟩
  case round =>
    obtain ⟨j, hj, rfl, hg, hb⟩ := hrel
    by_cases hlt : j < n
    · obtain ⟨x, hx⟩ := some_at (show j < l.length by omega)
      obtain ⟨b, off, R, nr, cr, U, nw, cw, rfl, hbl, h0, h1, h2, h3, h4, hp, hu⟩ := sl_rec (H.out.below hb) hx
      have hf := Lib.hid (HF.out x R nr cr U nw cw wr (List.mem_of_getElem? hx) hb hp hu)
      have hx' := Lib.hid hx
      clear hx hp hu
      cases hq : q x
      all_goals
        have hq' := Lib.hid hq
        rw [hq] at hf
        clear hq
        go_wp2_with (refine hf.out.mono ?_; rintro e w' ⟨rfl, hb'⟩)
      · go_roundw
        case rel => exact ⟨j + 1, by omega, by go_num, seen_more hg.out hx'.out hq'.out, hb.trans (hb'.mono hb.size)⟩
        case measure => simp [intOf]; omega
      · go_ret
        exact ⟨ret_int (idx_hit hg.out hx'.out hq'.out).symm, hb.trans (hb'.mono hb.size)⟩
    · go_wp2
      go_ret
      exact ⟨ret_int (idx_miss fun a y ha => hg.out a y (by have := (List.getElem?_eq_some_iff.1 ha).1; omega) ha).symm, hb⟩

/-- Does any pair pass a test? -/
theorem any_pairs (q : Pair → Bool) (F : Nat) (caps : Array Value) (l : List Pair) (A : Option Addr) (n cap : Nat) (w : World) (hl : Sl tPair w (fun _ => True) (.slice A n cap) l)
    (hcf : ∀ (x : Value) (W : World), (callFunc F (#[x] ++ caps)).run Try.prog W = .ok (.enter F (#[x] ++ caps)) W)
    (hF : ∀ (p : Pair) (W : World), p ∈ l → Below w.heap.size w W → Calls Try.prog F (#[.agg #[.string p.key, .string p.val, .bool p.dead]] ++ caps) W fun e W' => e = .returned (.bool (q p)) ∧ Below W.heap.size W W') :
    Calls Try.prog 28 #[.slice A n cap, .func (.func F) #[] caps] w fun e w' => e = .returned (.bool (l.any q)) ∧ Below w.heap.size w w' := by
  have HI := Lib.hid (index_pairs q F caps l A n cap w hl hcf hF)
  clear hl hF hcf
  go_enter Try.func28, Try.ntmps28
  go_wp2_with fail
  refine HI.out.mono ?_
  rintro e w' ⟨rfl, hb⟩
  go_wp2
  go_ret
  exact ⟨ret_bool (idx_any q l), hb⟩

/-- Does any read pass a test? -/
theorem any_reads (q : Rd → Bool) (F : Nat) (caps : Array Value) (l : List Rd) (A : Option Addr) (n cap : Nat) (w : World) (hl : Sl tRead w (fun _ => True) (.slice A n cap) l)
    (hcf : ∀ (x : Value) (W : World), (callFunc F (#[x] ++ caps)).run Try.prog W = .ok (.enter F (#[x] ++ caps)) W)
    (hF : ∀ (p : Rd) (P : Option Addr) (np cp : Nat) (W : World), p ∈ l → Below w.heap.size w W → Sl tPair W (fun _ => True) (.slice P np cp) p.pairs → Calls Try.prog F (#[.agg #[.bool p.scan, .string p.key, .string p.to, .slice P np cp]] ++ caps) W fun e W' => e = .returned (.bool (q p)) ∧ Below W.heap.size W W') :
    Calls Try.prog 31 #[.slice A n cap, .func (.func F) #[] caps] w fun e w' => e = .returned (.bool (l.any q)) ∧ Below w.heap.size w w' := by
  have HI := Lib.hid (index_reads q F caps l A n cap w hl hcf hF)
  clear hl hF hcf
  go_enter Try.func31, Try.ntmps31
  go_wp2_with fail
  refine HI.out.mono ?_
  rintro e w' ⟨rfl, hb⟩
  go_wp2
  go_ret
  exact ⟨ret_bool (idx_any q l), hb⟩
end Go.Proofs.Ytlbcckdbpgofmaa
