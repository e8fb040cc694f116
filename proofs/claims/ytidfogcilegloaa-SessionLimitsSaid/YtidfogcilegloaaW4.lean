import Derived.Test.YtidfogcilegloaaW3
namespace Go.Proofs.Ytidfogcilegloaa
open Go.RowKit

/-- What Get tells. -/
def getV (o : Option Ver) : Value := .tuple #[.agg (o.getD Ver.zero).enc.toArray, .bool o.isSome]

theorem get_calls (l : List Ver) (A : Option Addr) (n cap : Nat) (at_ : Int) (w : World) (hl : Sl tVer w (fun _ => True) (.slice A n cap) l) (hn : n ≤ 4611686018427387904) :
    Calls Try.prog 44 #[.slice A n cap, .int .i64 at_] w fun e w' => e = .returned (getV (get l at_)) ∧ Below w.heap.size w w' := by
  obtain ⟨hln, hcap, hm⟩ := hl.length
  have H := Lib.hid hl
  clear hl
  cases hg : good l
  · have HG := Lib.hid hg
    go_enter Try.func44, Try.ntmps44
    go_wp2_with fail
    have hb1 : Below w.heap.size w (w.alloc (.cells #[.int .i64 0, .string ⟨#[]⟩, .bool false] 93)) := (Below.refl _ _).alloc (Nat.le_refl _) _
    refine (good_calls l _ n cap _ (H.out.below hb1)).mono ?_
    rw [hg]
    rintro e w' ⟨rfl, hb⟩
    obtain ⟨hc, hf⟩ := bcell hb
    clear hg
    go_wp2
    have hz' := hb.size
    refine bodyPost_ret (v := getV none) ?_ rfl ⟨by rw [get, HG.out]; rfl, ?_⟩
    · simp [results, Try.results44, go_sem, hc, getV, Ver.enc, Ver.zero]
    · exact (((hb1.trans (hb.mono (by simp))).setCell (Nat.le_refl _) _).setCell (Nat.le_refl _) _).setCell (Nat.le_refl _) _
  · have HG := Lib.hid hg
    have hu := upTo_le l at_
    rw [hln] at hu
    have hb1 : Below w.heap.size w (w.alloc (.cells #[.int .i64 0, .string ⟨#[]⟩, .bool false] 93)) := (Below.refl _ _).alloc (Nat.le_refl _) _
    have hse := Lib.hid (seen_eq l at_)
    by_cases h0 : upTo l at_ = 0
    · have hfin : Hid (get l at_ = none) := by unfold get; rw [HG.out, hse.out, if_pos h0]; rfl
      have h0' := Lib.hid h0
      clear h0 hse
      go_enter Try.func44, Try.ntmps44
      go_wp2_with fail
      refine (good_calls l _ n cap _ (H.out.below hb1)).mono ?_
      rw [hg]
      rintro e w' ⟨rfl, hb⟩
      clear hg
      go_wp2_with fail
      have hb2 := hb1.trans (hb.mono (by simp))
      refine (upTo_calls l A n cap at_ _ (H.out.below hb2) HG.out hn).mono ?_
      rintro e w'' ⟨rfl, hb3⟩
      rw [h0'.out]
      have hz' := hb.size
      have hb4 := hb.trans (hb3.mono hb.size)
      obtain ⟨hc, hf⟩ := bcell hb4
      clear hb hb3
      have hz2 := hb4.size
      go_wp2
      refine bodyPost_ret (v := getV none) ?_ rfl ⟨by rw [hfin.out], ?_⟩
      · simp [results, Try.results44, go_sem, hc, getV, Ver.enc, Ver.zero]
      · exact (((hb1.trans (hb4.mono (by simp))).setCell (Nat.le_refl _) _).setCell (Nat.le_refl _) _).setCell (Nat.le_refl _) _
    · obtain ⟨x, hx⟩ := some_at (show upTo l at_ - 1 < l.length by omega)
      have hfin : Hid (get l at_ = if x.dead then none else some x) := by unfold get; rw [HG.out, hse.out, if_neg h0, hx]; rfl
      obtain ⟨b, off, rfl, hbl, c0, c1, c2⟩ := sl_ver H.out hx
      clear hse hx
      have HU : Hid (∀ W : World, Sl tVer W (fun _ => True) (.slice (some ⟨b, off, none⟩) n cap) l → Calls Try.prog 63 #[.slice (some ⟨b, off, none⟩) n cap, .int .i64 at_] W fun e w' => e = .returned (.int .i64 (upTo l at_ : Nat)) ∧ Below W.heap.size W w') :=
        fun W hW => upTo_calls l _ n cap at_ W hW HG.out hn
      generalize upTo l at_ = u at *
      have h0' : ((u : Int) == 0) = false := by simp; omega
      cases hd : x.dead
      · rw [hd] at c2 hfin
        go_enter Try.func44, Try.ntmps44
        go_wp2_with fail
        refine (good_calls l _ n cap _ (H.out.below hb1)).mono ?_
        rw [hg]
        rintro e w' ⟨rfl, hb⟩
        clear hg
        go_wp2_with fail
        have hb2 := hb1.trans (hb.mono (by simp))
        refine (HU.out _ (H.out.below hb2)).mono ?_
        rintro e w'' ⟨rfl, hb3⟩
        have hz' := hb.size
        have hb4 := hb.trans (hb3.mono hb.size)
        obtain ⟨hc, hf⟩ := bcell hb4
        clear hb hb3
        have hz2 := hb4.size
        have hd' := Lib.hid hd
        clear hd
        go_wp2
        refine bodyPost_ret (v := getV (some x)) ?_ rfl ⟨by rw [hfin.out]; rfl, ?_⟩
        · simp [results, Try.results44, go_sem, hc, getV, Ver.enc, hd'.out]
        · exact (((hb1.trans (hb4.mono (by simp))).setCell (Nat.le_refl _) _).setCell (Nat.le_refl _) _).setCell (Nat.le_refl _) _
      · rw [hd] at c2 hfin
        go_enter Try.func44, Try.ntmps44
        go_wp2_with fail
        refine (good_calls l _ n cap _ (H.out.below hb1)).mono ?_
        rw [hg]
        rintro e w' ⟨rfl, hb⟩
        clear hg
        go_wp2_with fail
        have hb2 := hb1.trans (hb.mono (by simp))
        refine (HU.out _ (H.out.below hb2)).mono ?_
        rintro e w'' ⟨rfl, hb3⟩
        have hz' := hb.size
        have hb4 := hb.trans (hb3.mono hb.size)
        obtain ⟨hc, hf⟩ := bcell hb4
        clear hb hb3
        have hz2 := hb4.size
        have hd' := Lib.hid hd
        clear hd
        go_wp2
        refine bodyPost_ret (v := getV none) ?_ rfl ⟨by rw [hfin.out]; rfl, ?_⟩
        · simp [results, Try.results44, go_sem, hc, getV, Ver.enc, Ver.zero]
        · exact (((hb1.trans (hb4.mono (by simp))).setCell (Nat.le_refl _) _).setCell (Nat.le_refl _) _).setCell (Nat.le_refl _) _

/-- One round of Since. -/
def cnt (l : List Ver) (n : Int) : Nat := l.countP fun v => decide (n < v.at_)
theorem since_cnt {l : List Ver} (hg : good l = true) (n : Int) : since l n = cnt l n := by
  unfold since
  rw [if_pos hg]
  have : ∀ (l : List Ver) (last : Int), goodFrom last l = true → l.length - upTo l n = cnt l n := by
    intro l
    induction l with
    | nil => intro _ _; rfl
    | cons x l ih =>
      intro last h
      have h0 := h
      simp only [goodFrom, Bool.and_eq_true, decide_eq_true_eq] at h
      have := ih _ h.2
      have hu := upTo_le l n
      unfold upTo cnt at *
      rw [List.takeWhile_cons, List.countP_cons]
      by_cases hx : x.at_ ≤ n
      · have hx' : ¬ n < x.at_ := by omega
        simp only [hx, decide_true, if_true, List.length_cons, hx', decide_false, Bool.false_eq_true, if_false]
        omega
      · have hx' : n < x.at_ := by omega
        simp only [hx, decide_false, Bool.false_eq_true, if_false, List.length_nil, List.length_cons, hx', decide_true, if_true]
        have hall : List.countP (fun v : Ver => decide (n < v.at_)) l = l.length := by
          rw [List.countP_eq_length]
          intro v hv
          have := goodFrom_lt h.2 v hv
          simp; omega
        omega
  exact this l 0 hg

end Go.Proofs.Ytidfogcilegloaa
