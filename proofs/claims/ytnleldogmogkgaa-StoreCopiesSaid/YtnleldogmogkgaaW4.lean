import Derived.Test.YtnleldogmogkgaaW3
namespace Go.Proofs.Ytnleldogmogkgaa
open Go.RowKit

theorem rlast_calls (l : List Ver) (A : Option Addr) (n cap : Nat) (w : World) (hl : Sl tVer w (fun _ => True) (.slice A n cap) l) :
    Calls Try.prog 72 #[.slice A n cap] w fun e w' => e = .returned (.int .i64 (lastOf l)) ∧ Below w.heap.size w w' := by
  obtain ⟨hln, hcap, hm⟩ := hl.length
  by_cases h0 : n = 0
  · subst h0
    obtain rfl := List.eq_nil_of_length_eq_zero hln
    go_enter Try.func72, Try.ntmps72
    go_wp2
    go_ret
    exact ⟨rfl, Below.refl _ _⟩
  · have h0' : ((n : Int) == 0) = false := by simp; omega
    obtain ⟨x, hx⟩ := some_at (show n - 1 < l.length by omega)
    obtain ⟨b, off, rfl, hbl, c0, c1, c2⟩ := sl_ver hl hx
    have H := Lib.hid hl
    have HX := Lib.hid hx
    clear hl hx
    cases hg : good l
    · have HG := Lib.hid hg
      go_enter Try.func72, Try.ntmps72
      go_wp2_with fail
      refine (rgood_calls l _ n cap _ H.out).mono ?_
      rw [hg]
      rintro e w' ⟨rfl, hb⟩
      clear hg
      go_wp2
      go_ret
      exact ⟨ret_int (by simp [lastOf, HG.out]), hb⟩
    · have HG := Lib.hid hg
      go_enter Try.func72, Try.ntmps72
      go_wp2_with fail
      refine (rgood_calls l _ n cap _ H.out).mono ?_
      rw [hg]
      rintro e w' ⟨rfl, hb⟩
      obtain ⟨hc, -⟩ := bcell hb
      clear hg
      go_wp2
      go_ret
      exact ⟨ret_int (by rw [lastOf, HG.out, if_pos rfl, List.getLast?_eq_getElem?, hln, HX.out]; rfl), hb⟩

theorem since_calls (l : List Ver) (A : Option Addr) (n cap : Nat) (at_ : Int) (w : World) (hl : Sl tVer w (fun _ => True) (.slice A n cap) l) (hn : n ≤ 4611686018427387904) :
    Calls Try.prog 37 #[.slice A n cap, .int .i64 at_] w fun e w' => e = .returned (.int .i64 (since l at_ : Nat)) ∧ Below w.heap.size w w' := by
  obtain ⟨hln, hcap, hm⟩ := hl.length
  have H := Lib.hid hl
  clear hl
  cases hg : good l
  · have HG := Lib.hid hg
    go_enter Try.func37, Try.ntmps37
    go_wp2_with fail
    refine (good_calls l _ n cap _ H.out).mono ?_
    rw [hg]
    rintro e w' ⟨rfl, hb⟩
    clear hg
    go_wp2
    go_ret
    exact ⟨ret_int (by simp [since, HG.out]), hb⟩
  · have HG := Lib.hid hg
    have hu := upTo_le l at_
    rw [hln] at hu
    have hu2 : Hid (((since l at_ : Nat) : Int) = (n : Int) - (upTo l at_ : Nat)) := by
      unfold since; rw [HG.out, if_pos rfl, hln]; show _ = _; omega
    go_enter Try.func37, Try.ntmps37
    go_wp2_with fail
    refine (good_calls l _ n cap _ H.out).mono ?_
    rw [hg]
    rintro e w' ⟨rfl, hb⟩
    clear hg
    go_wp2_with fail
    refine (upTo_calls l A n cap at_ _ (H.out.below hb) HG.out hn).mono ?_
    rintro e w'' ⟨rfl, hb2⟩
    generalize upTo l at_ = u at *
    go_wp2
    go_ret
    exact ⟨ret_int hu2.out.symm, hb.trans (hb2.mono hb.size)⟩

/-- What Get tells. -/
def getV (o : Option Ver) : Value := .tuple #[.agg (o.getD Ver.zero).enc.toArray, .bool o.isSome]

theorem get_calls (l : List Ver) (A : Option Addr) (n cap : Nat) (at_ : Int) (w : World) (hl : Sl tVer w (fun _ => True) (.slice A n cap) l) (hn : n ≤ 4611686018427387904) :
    Calls Try.prog 36 #[.slice A n cap, .int .i64 at_] w fun e w' => e = .returned (getV (get l at_)) ∧ Below w.heap.size w w' := by
  obtain ⟨hln, hcap, hm⟩ := hl.length
  have H := Lib.hid hl
  clear hl
  cases hg : good l
  · have HG := Lib.hid hg
    go_enter Try.func36, Try.ntmps36
    go_wp2_with fail
    have hb1 : Below w.heap.size w (w.alloc (.cells #[.int .i64 0, .string ⟨#[]⟩, .bool false] 68)) := (Below.refl _ _).alloc (Nat.le_refl _) _
    refine (good_calls l _ n cap _ (H.out.below hb1)).mono ?_
    rw [hg]
    rintro e w' ⟨rfl, hb⟩
    obtain ⟨hc, hf⟩ := bcell hb
    clear hg
    go_wp2
    have hz' := hb.size
    refine bodyPost_ret (v := getV none) ?_ rfl ⟨by rw [get, HG.out]; rfl, ?_⟩
    · simp [results, Try.results36, go_sem, hc, getV, Ver.enc, Ver.zero]
    · exact (((hb1.trans (hb.mono (by simp))).setCell (Nat.le_refl _) _).setCell (Nat.le_refl _) _).setCell (Nat.le_refl _) _
  · have HG := Lib.hid hg
    have hu := upTo_le l at_
    rw [hln] at hu
    have hb1 : Below w.heap.size w (w.alloc (.cells #[.int .i64 0, .string ⟨#[]⟩, .bool false] 68)) := (Below.refl _ _).alloc (Nat.le_refl _) _
    have hse := Lib.hid (seen_eq l at_)
    by_cases h0 : upTo l at_ = 0
    · have hfin : Hid (get l at_ = none) := by unfold get; rw [HG.out, hse.out, if_pos h0]; rfl
      have h0' := Lib.hid h0
      clear h0 hse
      go_enter Try.func36, Try.ntmps36
      go_wp2_with fail
      refine (good_calls l _ n cap _ (H.out.below hb1)).mono ?_
      rw [hg]
      rintro e w' ⟨rfl, hb⟩
      clear hg
      go_wp2_with fail
      have hb2 := hb1.trans (hb.mono (by simp))
      refine (upTo_calls l A n cap at_ _ (H.out.below hb2) HG.out hn).mono ?_
      rintro e w'' ⟨rfl, hb3⟩
      rw [h0'.out]
      have hz' := hb.size
      have hb4 := hb.trans (hb3.mono hb.size)
      obtain ⟨hc, hf⟩ := bcell hb4
      clear hb hb3
      have hz2 := hb4.size
      go_wp2
      refine bodyPost_ret (v := getV none) ?_ rfl ⟨by rw [hfin.out], ?_⟩
      · simp [results, Try.results36, go_sem, hc, getV, Ver.enc, Ver.zero]
      · exact (((hb1.trans (hb4.mono (by simp))).setCell (Nat.le_refl _) _).setCell (Nat.le_refl _) _).setCell (Nat.le_refl _) _
    · obtain ⟨x, hx⟩ := some_at (show upTo l at_ - 1 < l.length by omega)
      have hfin : Hid (get l at_ = if x.dead then none else some x) := by unfold get; rw [HG.out, hse.out, if_neg h0, hx]; rfl
      obtain ⟨b, off, rfl, hbl, c0, c1, c2⟩ := sl_ver H.out hx
      clear hse hx
      have HU : Hid (∀ W : World, Sl tVer W (fun _ => True) (.slice (some ⟨b, off, none⟩) n cap) l → Calls Try.prog 57 #[.slice (some ⟨b, off, none⟩) n cap, .int .i64 at_] W fun e w' => e = .returned (.int .i64 (upTo l at_ : Nat)) ∧ Below W.heap.size W w') :=
        fun W hW => upTo_calls l _ n cap at_ W hW HG.out hn
      generalize upTo l at_ = u at *
      have h0' : ((u : Int) == 0) = false := by simp; omega
      cases hd : x.dead
      · rw [hd] at c2 hfin
        go_enter Try.func36, Try.ntmps36
        go_wp2_with fail
        refine (good_calls l _ n cap _ (H.out.below hb1)).mono ?_
        rw [hg]
        rintro e w' ⟨rfl, hb⟩
        clear hg
        go_wp2_with fail
        have hb2 := hb1.trans (hb.mono (by simp))
        refine (HU.out _ (H.out.below hb2)).mono ?_
        rintro e w'' ⟨rfl, hb3⟩
        have hz' := hb.size
        have hb4 := hb.trans (hb3.mono hb.size)
        obtain ⟨hc, hf⟩ := bcell hb4
        clear hb hb3
        have hz2 := hb4.size
        have hd' := Lib.hid hd
        clear hd
        go_wp2
        refine bodyPost_ret (v := getV (some x)) ?_ rfl ⟨by rw [hfin.out]; rfl, ?_⟩
        · simp [results, Try.results36, go_sem, hc, getV, Ver.enc, hd'.out]
        · exact (((hb1.trans (hb4.mono (by simp))).setCell (Nat.le_refl _) _).setCell (Nat.le_refl _) _).setCell (Nat.le_refl _) _
      · rw [hd] at c2 hfin
        go_enter Try.func36, Try.ntmps36
        go_wp2_with fail
        refine (good_calls l _ n cap _ (H.out.below hb1)).mono ?_
        rw [hg]
        rintro e w' ⟨rfl, hb⟩
        clear hg
        go_wp2_with fail
        have hb2 := hb1.trans (hb.mono (by simp))
        refine (HU.out _ (H.out.below hb2)).mono ?_
        rintro e w'' ⟨rfl, hb3⟩
        have hz' := hb.size
        have hb4 := hb.trans (hb3.mono hb.size)
        obtain ⟨hc, hf⟩ := bcell hb4
        clear hb hb3
        have hz2 := hb4.size
        have hd' := Lib.hid hd
        clear hd
        go_wp2
        refine bodyPost_ret (v := getV none) ?_ rfl ⟨by rw [hfin.out]; rfl, ?_⟩
        · simp [results, Try.results36, go_sem, hc, getV, Ver.enc, Ver.zero]
        · exact (((hb1.trans (hb4.mono (by simp))).setCell (Nat.le_refl _) _).setCell (Nat.le_refl _) _).setCell (Nat.le_refl _) _

/-- One round of Since. -/
def cnt (l : List Ver) (n : Int) : Nat := l.countP fun v => decide (n < v.at_)
theorem since_cnt {l : List Ver} (hg : good l = true) (n : Int) : since l n = cnt l n := by
  unfold since
  rw [if_pos hg]
  have : ∀ (l : List Ver) (last : Int), goodFrom last l = true → l.length - upTo l n = cnt l n := by
    intro l
    induction l with
    | nil => intro _ _; rfl
    | cons x l ih =>
      intro last h
      have h0 := h
      simp only [goodFrom, Bool.and_eq_true, decide_eq_true_eq] at h
      have := ih _ h.2
      have hu := upTo_le l n
      unfold upTo cnt at *
      rw [List.takeWhile_cons, List.countP_cons]
      by_cases hx : x.at_ ≤ n
      · have hx' : ¬ n < x.at_ := by omega
        simp only [hx, decide_true, if_true, List.length_cons, hx', decide_false, Bool.false_eq_true, if_false]
        omega
      · have hx' : n < x.at_ := by omega
        simp only [hx, decide_false, Bool.false_eq_true, if_false, List.length_nil, List.length_cons, hx', decide_true, if_true]
        have hall : List.countP (fun v : Ver => decide (n < v.at_)) l = l.length := by
          rw [List.countP_eq_length]
          intro v hv
          have := goodFrom_lt h.2 v hv
          simp; omega
        omega
  exact this l 0 hg

theorem rsince_calls (l : List Ver) (A : Option Addr) (n cap : Nat) (at_ : Int) (w : World) (hl : Sl tVer w (fun _ => True) (.slice A n cap) l) :
    Calls Try.prog 48 #[.slice A n cap, .int .i64 at_] w fun e w' => e = .returned (.int .i64 (since l at_ : Nat)) ∧ Below w.heap.size w w' := by
  obtain ⟨hln, hcap, hm⟩ := hl.length
  have H := Lib.hid hl
  clear hl
  cases hg : good l
  · have HG := Lib.hid hg
    go_enter Try.func48, Try.ntmps48
    go_wp2_with fail
    refine (rgood_calls l _ n cap _ H.out).mono ?_
    rw [hg]
    rintro e w' ⟨rfl, hb⟩
    clear hg
    go_wp2
    go_ret
    exact ⟨ret_int (by simp [since, HG.out]), hb⟩
  · have HG := Lib.hid (since_cnt hg at_)
    go_enter Try.func48, Try.ntmps48
    go_wp2_with fail
    refine (rgood_calls l _ n cap _ H.out).mono ?_
    rw [hg]
    rintro e w1 ⟨rfl, hb0⟩
    clear hg
    go_wp2
    go_loopw [5, 13] (fun c i w' => ∃ (k m : Nat), k ≤ n ∧ m ≤ k ∧ i = .int .i64 k ∧ c = .int .i64 m ∧ Hid (cnt l at_ = m + cnt (l.drop k) at_) ∧ Below w.heap.size w w')
      (fun _ i _ => n - (intOf i).toNat)
    case atStart => exact ⟨0, 0, by omega, by omega, rfl, rfl, by show _ = _; simp, hb0⟩
    case round =>
      obtain ⟨k, m, hk, hmk, rfl, rfl, hg, hb⟩ := hrel
      have hz : w.heap.size ≤ wr.heap.size := hb.size
      by_cases hlt : k < n
      · obtain ⟨x, hx⟩ := some_at (show k < l.length by omega)
        obtain ⟨b, off, rfl, hbl, h0, h1, h2⟩ := sl_ver (H.out.below hb) hx
        have hd : Hid (cnt (l.drop k) at_ = cnt (l.drop (k + 1)) at_ + if at_ < x.at_ then 1 else 0) := by rw [drop_at hx]; unfold cnt; rw [List.countP_cons]; show _ = _; simp
        clear hx
        by_cases hgt : at_ < x.at_
        · have hd' : Hid (cnt (l.drop k) at_ = cnt (l.drop (k + 1)) at_ + 1) := by rw [hd.out, if_pos hgt]; rfl
          clear hd
          go_wp2
          go_roundw
          case rel => exact ⟨k + 1, m + 1, by omega, by omega, by go_num, by go_num, by have a := hg.out; have b := hd'.out; show _ = _; omega, hb.alloc hz _⟩
          case measure => simp [intOf]; omega
        · have hd' : Hid (cnt (l.drop k) at_ = cnt (l.drop (k + 1)) at_) := by rw [hd.out, if_neg hgt]; rfl
          clear hd
          go_wp2
          go_roundw
          case rel => exact ⟨k + 1, m, by omega, by omega, by go_num, rfl, by have a := hg.out; have b := hd'.out; show _ = _; omega, hb.alloc hz _⟩
          case measure => simp [intOf]; omega
      · go_wp2
        go_ret
        have hfin : since l at_ = m := by rw [HG.out, hg.out, List.drop_of_length_le (by omega)]; rfl
        exact ⟨ret_int (by rw [hfin]), hb⟩
end Go.Proofs.Ytnleldogmogkgaa
