import Derived.Test.YtlbcckdbpgofmaaW12
import Derived.Laws.StructEq
/-! The document's SameReads. -/
namespace Go.Proofs.Ytlbcckdbpgofmaa
open Go.RowKit Go.Op

/-- Lists alike, element by element. -/
def alike {α : Type} (q : α → α → Bool) : List α → List α → Bool
  | [], [] => true
  | a :: l, b :: m => q a b && alike q l m
  | _, _ => false
theorem alike_step {α : Type} {q : α → α → Bool} : ∀ {l m : List α} {j : Nat} {x y : α}, l[j]? = some x → m[j]? = some y → alike q (l.drop j) (m.drop j) = (q x y && alike q (l.drop (j + 1)) (m.drop (j + 1)))
  | [], _, _, _, _, h, _ => by simp at h
  | _ :: _, [], _, _, _, _, h => by simp at h
  | a :: l, b :: m, 0, x, y, h, k => by simp at h k; subst h k; rfl
  | a :: l, b :: m, j + 1, x, y, h, k => by simpa using alike_step (l := l) (m := m) (j := j) (by simpa using h) (by simpa using k)
theorem alike_end {α : Type} {q : α → α → Bool} {l m : List α} {j : Nat} (h : l.length ≤ j) (k : m.length ≤ j) : alike q (l.drop j) (m.drop j) = true := by
  rw [List.drop_of_length_le h, List.drop_of_length_le k]; rfl
theorem alike_len {α : Type} {q : α → α → Bool} : ∀ {l m : List α}, l.length ≠ m.length → alike q l m = false
  | [], [], h => by simp at h
  | [], _ :: _, _ => rfl
  | _ :: _, [], _ => rfl
  | a :: l, b :: m, h => by rw [alike, alike_len (by simpa using h), Bool.and_false]
def samePair (p q : Pair) : Bool := p.key.toList == q.key.toList && (p.val.toList == q.val.toList && p.dead == q.dead)
def samePairs : List Pair → List Pair → Bool := alike samePair

theorem guard37 : Try.prog.eqGuardType Try.prog.depth 37 = false := by kernel_rfl
theorem stood37 : Try.prog.stoodInHeld 37 = false := by kernel_rfl
theorem run_neq_pair (p q : Pair) (W : World) : (Go.binOp .neq 37 (.agg #[.string p.key, .string p.val, .bool p.dead]) (.agg #[.string q.key, .string q.val, .bool q.dead])).run Try.prog W = .ok (.bool (!samePair p q)) W := by
  have hst : Try.prog.underlying 37 = some (.struct (Try.prog.fieldsOf 37)) := by rw [Program.fieldsOf, Try.underlying37]
  have u9 := Try.underlying9
  have u4 := Try.underlying4
  rw [run_neq_struct, run_equalIn_struct _ _ _ _ _ hst stood37]
  simp only [Program.fieldsOf, Try.underlying37]
  unfold samePair
  cases hk : p.key.toList == q.key.toList <;> cases hv : p.val.toList == q.val.toList <;> cases hd : p.dead == q.dead <;>
  simp [Op.eqFields, go_sem, part, u9, u4, hk, hv, hd]

set_option maxHeartbeats 4000000 in
theorem same_calls (l m : List Pair) (A : Option Addr) (n cap : Nat) (B : Option Addr) (n2 cap2 : Nat) (w : World) (hl : Sl tPair w (fun _ => True) (.slice A n cap) l) (hm : Sl tPair w (fun _ => True) (.slice B n2 cap2) m) :
    Calls Try.prog 36 #[.slice A n cap, .slice B n2 cap2] w fun e w' => e = .returned (.bool (samePairs l m)) ∧ Below w.heap.size w w' := by
  obtain ⟨hln, hcap, hcm⟩ := hl.length
  obtain ⟨hmn, hcap2, hcm2⟩ := hm.length
  have H := Lib.hid hl
  have H2 := Lib.hid hm
  clear hl hm
  have hX := Lib.hid (Below.refl w.heap.size w)
  by_cases hne : n = n2
  · subst hne
    go_enter Try.func36, Try.ntmps36
    go_wp2
    go_loopw [5, 13] (fun _ i w' => ∃ (j : Nat), j ≤ n ∧ i = .int .i64 j ∧ Hid (samePairs l m = alike samePair (l.drop j) (m.drop j)) ∧ Below w.heap.size w w')
      (fun _ i _ => n - (intOf i).toNat)
    case atStart => exact ⟨0, by omega, rfl, rfl, hX.out⟩
    case round =>
      obtain ⟨j, hj, rfl, hg, hb⟩ := hrel
      by_cases hlt : j < n
      · obtain ⟨x, hx⟩ := some_at (show j < l.length by omega)
        obtain ⟨y, hy⟩ := some_at (show j < m.length by omega)
        obtain ⟨b, off, rfl, hbl, g0, g1, g2⟩ := sl_pair (H.out.below hb) hx
        obtain ⟨b', off', rfl, hbl', k0, k1, k2⟩ := sl_pair (H2.out.below hb) hy
        have hnq := fun W => run_neq_pair x y W
        have hgd := guard37
        go_wp2_with fail
        go_quiet (fail)
        have hs : Hid (samePairs l m = (samePair x y && alike samePair (l.drop (j + 1)) (m.drop (j + 1)))) := hg.out.trans (alike_step hx hy)
        clear hx hy hg hnq
        have hb' := below_drewN hb nq
        clear hb
        generalize wr.drewN nq = w3 at *
        cases he : samePair x y
        · simp only [Bool.not_false]
          go_wp2
          go_ret
          exact ⟨ret_bool (by show _ = samePairs l m; rw [hs.out, he]; rfl), hb'⟩
        · simp only [Bool.not_true]
          go_wp2
          go_roundw
          case rel => exact ⟨j + 1, by omega, by go_num, (show _ = _ by rw [hs.out, he]; rfl), hb'⟩
          case measure => simp [intOf]; omega
      · have hv : samePairs l m = true := hg.out.trans (alike_end (by omega) (by omega))
        go_wp2
        go_ret
        exact ⟨ret_bool hv.symm, hb⟩
  · have hv : samePairs l m = false := alike_len (by omega)
    rw [hv]
    go_enter Try.func36, Try.ntmps36
    go_wp2
    go_ret
    exact ⟨rfl, hX.out⟩

def sameRd (x y : Rd) : Bool := x.scan == y.scan && (x.key.toList == y.key.toList && (x.to.toList == y.to.toList && samePairs x.pairs y.pairs))
def sameRds : List Rd → List Rd → Bool := alike sameRd

set_option maxHeartbeats 8000000 in
theorem samereads_calls (l m : List Rd) (A : Option Addr) (n cap : Nat) (B : Option Addr) (n2 cap2 : Nat) (w : World) (hl : Sl tRead w (fun _ => True) (.slice A n cap) l) (hm : Sl tRead w (fun _ => True) (.slice B n2 cap2) m) :
    Calls Try.prog 21 #[.slice A n cap, .slice B n2 cap2] w fun e w' => e = .returned (.bool (sameRds l m)) ∧ Below w.heap.size w w' := by
  obtain ⟨hln, hcap, hcm⟩ := hl.length
  obtain ⟨hmn, hcap2, hcm2⟩ := hm.length
  have H := Lib.hid hl
  have H2 := Lib.hid hm
  clear hl hm
  have hX := Lib.hid (Below.refl w.heap.size w)
  by_cases hne : n = n2
  · subst hne
    go_enter Try.func21, Try.ntmps21
    go_wp2
    go_loopw [5, 13] (fun _ i w' => ∃ (j : Nat), j ≤ n ∧ i = .int .i64 j ∧ Hid (sameRds l m = alike sameRd (l.drop j) (m.drop j)) ∧ Below w.heap.size w w')
      (fun _ i _ => n - (intOf i).toNat)
    case atStart => exact ⟨0, by omega, rfl, rfl, hX.out⟩
    case round =>
      obtain ⟨j, hj, rfl, hg, hb⟩ := hrel
      by_cases hlt : j < n
      · obtain ⟨x, hx⟩ := some_at (show j < l.length by omega)
        obtain ⟨y, hy⟩ := some_at (show j < m.length by omega)
        obtain ⟨b, off, P, np, cp, rfl, hbl, g0, g1, g2, g3, hP⟩ := sl_read (H.out.below hb) hx
        obtain ⟨b', off', P', np', cp', rfl, hbl', k0, k1, k2, k3, hP'⟩ := sl_read (H2.out.below hb) hy
        have hs : Hid (sameRds l m = (sameRd x y && alike sameRd (l.drop (j + 1)) (m.drop (j + 1)))) := hg.out.trans (alike_step hx hy)
        have HP := Lib.hid hP
        have HP' := Lib.hid hP'
        have HB := Lib.hid hb
        clear hx hy hg hP hP' hb
        cases h1 : x.scan == y.scan
        · have hs' : Hid (sameRds l m = false) := by show _ = _; rw [hs.out, sameRd, h1]; rfl
          clear hs
          go_wp2_with fail
          go_quiet (fail)
          have hb' := below_drewN HB.out nq
          generalize wr.drewN nq = w3 at *
          go_wp2
          go_ret
          exact ⟨ret_bool hs'.out.symm, hb'⟩
        · cases h2 : x.key.toList == y.key.toList
          · have hs' : Hid (sameRds l m = false) := by show _ = _; rw [hs.out, sameRd, h1, h2]; rfl
            clear hs
            go_wp2_with fail
            go_quiet (fail)
            have hb' := below_drewN HB.out nq
            generalize wr.drewN nq = w3 at *
            go_wp2
            go_ret
            exact ⟨ret_bool hs'.out.symm, hb'⟩
          · cases h3 : x.to.toList == y.to.toList
            · have hs' : Hid (sameRds l m = false) := by show _ = _; rw [hs.out, sameRd, h1, h2, h3]; rfl
              clear hs
              go_wp2_with fail
              go_quiet (fail)
              have hb' := below_drewN HB.out nq
              generalize wr.drewN nq = w3 at *
              go_wp2
              go_ret
              exact ⟨ret_bool hs'.out.symm, hb'⟩
            · go_wp2_with fail
              have hX0 := Lib.hid (Below.refl wr.heap.size wr)
              refine wp_region_later (by kernel_rfl) (by kernel_rfl) ?_
              repeat (go_big_quiet_step (first
                | (go_at_call 36; exact calls_later (same_calls x.pairs y.pairs P np cp P' np' cp' _ (HP.out.below (later_from hX0.out (Nat.le_refl _) _)) (HP'.out.below (later_from hX0.out (Nat.le_refl _) _))))))
              refine wpQuiet_nil ?_
              rintro _ ⟨e, rfl⟩
              have hb' := HB.out.trans ((later_below e).mono HB.out.size)
              clear HB hX0 HP HP'
              generalize later _ e = w3 at *
              cases h4 : samePairs x.pairs y.pairs
              · have hs' : Hid (sameRds l m = false) := by show _ = _; rw [hs.out, sameRd, h1, h2, h3, h4]; rfl
                simp only [Bool.not_false]
                go_wp2
                go_ret
                exact ⟨ret_bool hs'.out.symm, hb'⟩
              · have hs' : Hid (sameRds l m = alike sameRd (l.drop (j + 1)) (m.drop (j + 1))) := by show _ = _; rw [hs.out, sameRd, h1, h2, h3, h4]; rfl
                simp only [Bool.not_true]
                go_wp2
                go_roundw
                case rel => exact ⟨j + 1, by omega, by go_num, hs', hb'⟩
                case measure => simp [intOf]; omega
      · have hv : sameRds l m = true := hg.out.trans (alike_end (by omega) (by omega))
        go_wp2
        go_ret
        exact ⟨ret_bool hv.symm, hb⟩
  · have hv : sameRds l m = false := alike_len (by omega)
    rw [hv]
    go_enter Try.func21, Try.ntmps21
    go_wp2
    go_ret
    exact ⟨rfl, hX.out⟩
end Go.Proofs.Ytlbcckdbpgofmaa
