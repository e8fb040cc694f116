import Derived.Test.YtidfogcilegloaaW1
import Derived.Deep.QuietTactic
import Derived.BigQuiet
namespace Go.Proofs.Ytidfogcilegloaa
open Go.RowKit

/-- Search: the first number at which a test that rises says yes. The test: a function value over captured variables. -/
theorem search_calls (n : Nat) (F : Nat) (cap : Array Value) (p : Nat → Bool) (w : World) (hn : n ≤ 4611686018427387904)
    (hcf : ∀ (x : Value) (W : World), (callFunc F (#[x] ++ cap)).run Try.prog W = .ok (.enter F (#[x] ++ cap)) W)
    (hF : ∀ (i : Nat) (W : World), i < n → Below w.heap.size w W → Calls Try.prog F (#[.int .i64 i] ++ cap) W fun e W' => e = .returned (.bool (p i)) ∧ Below w.heap.size W W')
    (hp : ∀ i j, i ≤ j → j < n → p i = true → p j = true) :
    Calls Try.prog 71 #[.int .i64 n, .func (.func F) #[] cap] w fun e w' => ∃ r : Nat, e = .returned (.int .i64 r) ∧ r ≤ n ∧ (∀ i, i < r → p i = false) ∧ (∀ i, r ≤ i → i < n → p i = true) ∧ Below w.heap.size w w' := by
  have HF := Lib.hid hF
  have HP := Lib.hid hp
  clear hF hp
  go_enter Try.func71, Try.ntmps71
  go_wp2
  go_loopw [5, 6, 7] (fun i j _ w' => ∃ a b : Nat, a ≤ b ∧ b ≤ n ∧ i = .int .i64 a ∧ j = .int .i64 b ∧ Hid (∀ i, i < a → p i = false) ∧ Hid (∀ i, b ≤ i → i < n → p i = true) ∧ Below w.heap.size w w')
    (fun i j _ _ => (intOf j).toNat - (intOf i).toNat)
  case atStart => exact ⟨0, n, by omega, by omega, rfl, rfl, fun i hi => by omega, fun i h1 h2 => by omega, Below.refl _ _⟩
  case round =>
    obtain ⟨a, b, hab, hbn, rfl, rfl, h1, h2, hb⟩ := hrel
    by_cases hlt : a < b
    · have hF1 := Lib.hid (HF.out ((a + b) / 2) wr (by omega) hb)
      have ec : (((a + b) / 2 : Nat) : Int) = ((a : Int) + b) / 2 := by omega
      rw [ec] at hF1
      clear ec
      cases hp : p ((a + b) / 2)
      · rw [hp] at hF1
        go_wp2_with (refine hF1.out.mono ?_; rintro e w' ⟨rfl, hb'⟩)
        refine ⟨⟨(a + b) / 2 + 1, b, by omega, hbn, by go_num, rfl, ?_, h2, hb.trans hb'⟩, by simp [intOf]; omega⟩
        intro i hi
        cases hq : p i
        · rfl
        · exact absurd (HP.out i ((a + b) / 2) (by omega) (by omega) hq) (by simp [hp])
      · rw [hp] at hF1
        go_wp2_with (refine hF1.out.mono ?_; rintro e w' ⟨rfl, hb'⟩)
        refine ⟨⟨a, (a + b) / 2, by omega, by omega, rfl, by go_num, h1, fun i hi hn' => HP.out _ _ hi hn' hp, hb.trans hb'⟩, by simp [intOf]; omega⟩
    · go_wp2
      go_ret
      have : a = b := by omega
      subst this
      exact ⟨a, rfl, hbn, h1, h2, hb⟩

/-- The test of upTo: over two captured variables. -/
theorem after_calls (l : List Ver) (A : Option Addr) (n cap : Nat) (at_ : Int) (g h : Nat) (i : Nat) (x : Ver) (w : World) (hl : Sl tVer w (fun _ => True) (.slice A n cap) l)
    (hg : w.cell? ⟨g, 0, none⟩ = some (.slice A n cap)) (hh : w.cell? ⟨h, 0, none⟩ = some (.int .i64 at_)) (hx : l[i]? = some x) :
    Calls Try.prog 72 #[.int .i64 i, .pointer (some ⟨g, 0, none⟩), .pointer (some ⟨h, 0, none⟩)] w fun e w' => e = .returned (.bool (decide (at_ < x.at_))) ∧ Below w.heap.size w w' := by
  obtain ⟨hln, hcap, hm⟩ := hl.length
  have hi : i < n := by have := (List.getElem?_eq_some_iff.1 hx).1; omega
  obtain ⟨b, off, rfl, -, h0, h1, h2⟩ := sl_ver hl hx
  clear hl hx
  have hi0 : (0 : Int) ≤ (i : Int) := by omega
  have hi1 : (i : Int) < (n : Int) := by omega
  go_enter Try.func72, Try.ntmps72
  go_wp2
  go_quiet (fail)
  go_wp2
  go_ret
  exact ⟨rfl, below_drewN (Below.refl _ _) _⟩

theorem upTo_mono {l : List Ver} (hg : good l = true) {n : Int} {i j : Nat} (hij : i ≤ j) {x y : Ver} (hi : l[i]? = some x) (hj : l[j]? = some y) (h : n < x.at_) : n < y.at_ := by
  have h1 := upTo_spec (n := n) hg hi
  have h2 := upTo_spec (n := n) hg hj
  omega

theorem upTo_first {l : List Ver} (hg : good l = true) {n : Int} {r : Nat} (hr : r ≤ l.length) (h1 : ∀ i, i < r → decide (n < (l.getD i Ver.zero).at_) = false) (h2 : ∀ i, r ≤ i → i < l.length → decide (n < (l.getD i Ver.zero).at_) = true) : r = upTo l n := by
  have hu := upTo_le l n
  have key : ∀ i (h : i < l.length), (l.getD i Ver.zero).at_ ≤ n ↔ i < upTo l n := fun i h => by
    rw [List.getD_eq_getElem?_getD, List.getElem?_eq_getElem h]
    exact upTo_spec hg (List.getElem?_eq_getElem h)
  rcases Nat.lt_trichotomy r (upTo l n) with h | h | h
  · have a := (key r (by omega)).2 h
    have b := of_decide_eq_true (h2 r (by omega) (by omega))
    omega
  · exact h
  · have a := key (upTo l n) (by omega)
    have b := of_decide_eq_false (h1 (upTo l n) h)
    omega

theorem upTo_calls (l : List Ver) (A : Option Addr) (n cap : Nat) (at_ : Int) (w : World) (hl : Sl tVer w (fun _ => True) (.slice A n cap) l) (hg : good l = true) (hn : n ≤ 4611686018427387904) :
    Calls Try.prog 63 #[.slice A n cap, .int .i64 at_] w fun e w' => e = .returned (.int .i64 (upTo l at_ : Nat)) ∧ Below w.heap.size w w' := by
  obtain ⟨hln, hcap, hm⟩ := hl.length
  have hb1 : Below w.heap.size w ((w.alloc (.cells #[.slice A n cap] 86)).alloc (.cells #[.int .i64 at_] 3)) := ((Below.refl _ _).alloc (Nat.le_refl _) _).alloc (by simp) _
  have H := Lib.hid (hl.below hb1)
  have HB := Lib.hid hb1
  have HG := Lib.hid hg
  clear hl hg hb1
  go_enter Try.func63, Try.ntmps63
  go_wp2_with fail
  refine (search_calls n 72 _ (fun i => decide (at_ < (l.getD i Ver.zero).at_)) _ hn (fun _ _ => by rfl) ?_ ?_).mono ?_
  · intro i W hi hW
    obtain ⟨x, hx⟩ := some_at (show i < l.length by omega)
    have := after_calls l A n cap at_ w.heap.size (w.heap.size + 1) i x W (H.out.below hW) ?_ ?_ hx
    · rw [show l.getD i Ver.zero = x by rw [List.getD_eq_getElem?_getD, hx]; rfl]
      refine this.mono fun e W' h => ⟨h.1, h.2.mono ?_⟩
      have := hW.size
      exact this
    · rw [(bcell hW).1 _ _ (by simp; omega)]
      simp [go_sem]
    · rw [(bcell hW).1 _ _ (by simp)]
      simp [go_sem]
  · intro i j hij hj h
    obtain ⟨y, hy⟩ := some_at (show j < l.length by omega)
    obtain ⟨x, hx⟩ := some_at (show i < l.length by omega)
    simp only [List.getD_eq_getElem?_getD, hx, hy, Option.getD_some, decide_eq_true_eq] at h ⊢
    exact upTo_mono HG.out hij hx hy h
  · rintro e w' ⟨r, rfl, hr, h1, h2, hb⟩
    have hr' := Lib.hid (upTo_first HG.out (by omega) h1 (by rw [hln]; exact h2))
    clear h1 h2
    go_wp2
    go_ret
    exact ⟨ret_int (by rw [hr'.out]), HB.out.trans (hb.mono (by simp; omega))⟩
end Go.Proofs.Ytidfogcilegloaa
