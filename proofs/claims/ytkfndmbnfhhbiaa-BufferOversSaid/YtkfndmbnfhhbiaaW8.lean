import Derived.Test.YtkfndmbnfhhbiaaW7
/-! light, do. -/
namespace Go.Proofs.Ytkfndmbnfhhbiaa
open Go.RowKit Go.Op

/-- Texts are not larger than memory. -/
def Short (l : List Pair) : Prop := ∀ p ∈ l, p.key.size ≤ 140737488351232 ∧ p.val.size ≤ 140737488351232

set_option maxHeartbeats 4000000 in
theorem light_calls (l m : List Pair) (A B : Option Addr) (n c k d : Nat) (w : World) (hl : Sl tPair w (fun _ => True) (.slice A n c) l) (hm : Sl tPair w (fun _ => True) (.slice B k d) m) (sl : Short l) (sm : Short m) :
    Calls Try.prog 9 #[.slice A n c, .slice B k d] w fun e w' => ∃ b : Bool, e = .returned (.bool b) ∧ (b = true → n ≤ 150 ∧ k ≤ 150) ∧ Below w.heap.size w w' := by
  obtain ⟨hln, hcap, hcm⟩ := hl.length
  obtain ⟨hlm, hcap2, hcm2⟩ := hm.length
  have HLN := Lib.hid hln
  have HLM := Lib.hid hlm
  have HL := Lib.hid hl
  have HM := Lib.hid hm
  have HSL := Lib.hid sl
  have HSM := Lib.hid sm
  have hX := Lib.hid (Below.refl w.heap.size w)
  clear hl hm hln hlm sl sm
  by_cases h1 : 150 < n
  · have h1' : (150 : Int) < (n : Int) := by omega
    go_enter Try.func9, Try.ntmps9
    go_wp2
    all_goals
      go_ret
      exact ⟨false, rfl, by simp, hX.out⟩
  · by_cases h2 : 150 < k
    · have h2' : (150 : Int) < (k : Int) := by omega
      go_enter Try.func9, Try.ntmps9
      go_wp2
      all_goals
        go_ret
        exact ⟨false, rfl, by simp, hX.out⟩
    · go_enter Try.func9, Try.ntmps9
      go_wp2
      go_loopw [5, 25] (fun s i wr => ∃ (j : Nat) (x : Int), i = .int .i64 j ∧ s = .int .i64 x ∧ 0 ≤ x ∧ x ≤ 500 ∧ Hid (Below w.heap.size w wr) ∧ j ≤ n) (fun _ i _ => n - (intOf i).toNat)
      case atStart => exact ⟨0, (n : Int) + k, rfl, rfl, by omega, by omega, hX, by omega⟩
      case round =>
        obtain ⟨j, x, rfl, rfl, hx0, hx5, hB, hj⟩ := hrel
        by_cases hlt : j < n
        · obtain ⟨p, hp⟩ := some_at (show j < l.length by rw [HLN.out]; exact hlt)
          obtain ⟨g, off, rfl, hg, x0, x1, x2⟩ := sl_pair (HL.out.below hB.out) hp
          obtain ⟨s1, s2⟩ := HSL.out p (List.mem_of_getElem? hp)
          have hBx := Lib.hid (hB.out.alloc hB.out.size (.cells #[.string p.key, .string p.val, .bool p.dead] 35))
          clear hp
          go_wp2
          · go_ret
            exact ⟨false, rfl, by simp, hBx.out⟩
          · go_roundw
            case rel => exact ⟨j + 1, _, by go_num, rfl, by omega, by omega, hBx, by omega⟩
            case measure => simp [intOf]; omega
        · clear hX
          go_wp2
          go_loopw [5, 44] (fun s i wr => ∃ (j : Nat) (x : Int), i = .int .i64 j ∧ s = .int .i64 x ∧ 0 ≤ x ∧ x ≤ 500 ∧ Hid (Below w.heap.size w wr) ∧ j ≤ k) (fun _ i _ => k - (intOf i).toNat)
          case atStart => exact ⟨0, x, rfl, rfl, by omega, by omega, hB, by omega⟩
          case round =>
            obtain ⟨i, y, rfl, rfl, hy0, hy5, hB2, hi⟩ := hrel
            by_cases hlt2 : i < k
            · obtain ⟨p, hp⟩ := some_at (show i < m.length by rw [HLM.out]; exact hlt2)
              obtain ⟨g, off, rfl, hg, x0, x1, x2⟩ := sl_pair (HM.out.below hB2.out) hp
              obtain ⟨s1, s2⟩ := HSM.out p (List.mem_of_getElem? hp)
              have hBx := Lib.hid (hB2.out.alloc hB2.out.size (.cells #[.string p.key, .string p.val, .bool p.dead] 52))
              clear hp
              go_wp2
              · go_ret
                exact ⟨false, rfl, by simp, hBx.out⟩
              · go_roundw
                case rel => exact ⟨i + 1, _, by go_num, rfl, by omega, by omega, hBx, by omega⟩
                case measure => simp [intOf]; omega
            · go_wp2
              go_ret
              exact ⟨true, rfl, fun _ => ⟨by omega, by omega⟩, hB2.out⟩

/-- What an act writes. -/
def actP (a : Pair) : Pair := if a.dead then ⟨a.key, ⟨#[]⟩, true⟩ else ⟨a.key, a.val, false⟩
theorem do_calls (pb mb : Nat) (l : List Pair) (a : Pair) (w : World) (h : Buf w pb mb l) (hk : a.key.size ≤ 140737488351232) :
    Calls Try.prog 13 #[.pointer (some ⟨pb, 0, none⟩), .agg #[.string a.key, .string a.val, .bool a.dead]] w fun e w' => e = .returned (.int .i64 (rput l (actP a)).1) ∧ Buf w' pb mb (rput l (actP a)).2 ∧ w.grownBy w' (some mb) := by
  have hb := (Below.refl w.heap.size w).alloc (Nat.le_refl _) (.cells #[.string a.key, .string a.val, .bool a.dead] 35)
  cases hd : a.dead
  · have e : actP a = ⟨a.key, a.val, false⟩ := by rw [actP, hd]; rfl
    rw [hd] at hb
    have HP := Lib.hid (put_calls pb mb l a.key a.val _ (h.below hb) hk)
    have HG := Lib.hid (grown_of hb (some mb))
    rw [e]
    obtain ⟨r, hr⟩ : ∃ r, rput l ⟨a.key, a.val, false⟩ = r := ⟨_, rfl⟩
    rw [hr] at HP ⊢
    clear h hb hr e hd
    go_enter Try.func13, Try.ntmps13
    go_wp2_with fail
    refine HP.out.mono ?_
    rintro e w' ⟨rfl, h1, h2⟩
    have H1 := Lib.hid h1
    have H2 := Lib.hid (HG.out.trans h2)
    clear h1 h2
    go_wp2
    go_ret
    exact ⟨rfl, H1.out, H2.out⟩
  · have e : actP a = ⟨a.key, ⟨#[]⟩, true⟩ := by rw [actP, hd]; rfl
    rw [hd] at hb
    have HP := Lib.hid (drop_calls pb mb l a.key _ (h.below hb) hk)
    have HG := Lib.hid (grown_of hb (some mb))
    rw [e]
    obtain ⟨r, hr⟩ : ∃ r, rput l ⟨a.key, ⟨#[]⟩, true⟩ = r := ⟨_, rfl⟩
    rw [hr] at HP ⊢
    clear h hb hr e hd
    go_enter Try.func13, Try.ntmps13
    go_wp2_with fail
    refine HP.out.mono ?_
    rintro e w' ⟨rfl, h1, h2⟩
    have H1 := Lib.hid h1
    have H2 := Lib.hid (HG.out.trans h2)
    clear h1 h2
    go_wp2
    go_ret
    exact ⟨rfl, H1.out, H2.out⟩
end Go.Proofs.Ytkfndmbnfhhbiaa
