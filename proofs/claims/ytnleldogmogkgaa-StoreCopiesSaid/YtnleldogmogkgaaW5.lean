import Derived.Test.YtnleldogmogkgaaW4
namespace Go.Proofs.Ytnleldogmogkgaa
open Go.RowKit

theorem trim_calls (l : List Ver) (A : Option Addr) (n cap : Nat) (at_ : Int) (w : World) (hl : Sl tVer w (fun _ => True) (.slice A n cap) l) (hn : n ≤ 1000000) :
    Calls Try.prog 39 #[.slice A n cap, .int .i64 at_] w fun e w' => ∃ v, e = .returned v ∧ Sl tVer w' (fun b => w.heap.size ≤ b) v (trim l at_) ∧ Below w.heap.size w w' := by
  obtain ⟨hln, hcap, hm⟩ := hl.length
  have H := Lib.hid hl
  clear hl
  cases hg : good l
  · have HG := Lib.hid hg
    go_enter Try.func39, Try.ntmps39
    go_wp2_with fail
    refine (good_calls l _ n cap _ H.out).mono ?_
    rw [hg]
    rintro e w' ⟨rfl, hb⟩
    clear hg
    go_wp2
    go_ret
    exact ⟨_, rfl, by rw [trim, HG.out]; exact Sl.nil _ _ _, hb⟩
  · have HG := Lib.hid hg
    have hu := upTo_le l at_
    rw [hln] at hu
    have HU : Hid (∀ W : World, Sl tVer W (fun _ => True) (.slice A n cap) l → Calls Try.prog 57 #[.slice A n cap, .int .i64 at_] W fun e w' => e = .returned (.int .i64 (upTo l at_ : Nat)) ∧ Below W.heap.size W w') :=
      fun W hW => upTo_calls l _ n cap at_ W hW HG.out (by omega)
    have hfin : Hid (trim l at_ = l.drop (trimAt l at_)) := by rw [trim, HG.out, if_pos rfl]; rfl
    have hse := Lib.hid (seen_eq l at_)
    by_cases h0 : upTo l at_ = 0
    · have hta : Hid (trimAt l at_ = 0) := by unfold trimAt; rw [hse.out, if_pos h0, h0]; rfl
      have h0' := Lib.hid h0
      clear h0 hse
      go_enter Try.func39, Try.ntmps39
      go_wp2_with fail
      refine (good_calls l _ n cap _ H.out).mono ?_
      rw [hg]
      rintro e w' ⟨rfl, hb⟩
      clear hg
      go_wp2_with fail
      refine (HU.out _ (H.out.below hb)).mono ?_
      rw [h0'.out]
      rintro e w'' ⟨rfl, hb2⟩
      go_wp2_with fail
      have hb3 := hb.trans (hb2.mono hb.size)
      refine (clone_calls _ _ _ _ _ (H.out.below hb3) (by omega)).mono ?_
      rintro e w3 ⟨v, rfl, hv, hb4⟩
      go_wp2
      go_ret
      exact ⟨_, rfl, by rw [hfin.out, hta.out]; exact hv.mono fun b hb => Nat.le_trans hb3.size hb, hb3.trans (hb4.mono hb3.size)⟩
    · obtain ⟨x, hx⟩ := some_at (show upTo l at_ - 1 < l.length by omega)
      have hta : Hid (trimAt l at_ = if x.dead then upTo l at_ else upTo l at_ - 1) := by
        unfold trimAt; rw [hse.out, if_neg h0, hx]; show _ = _; unfold live; cases hd : x.dead <;> simp [hd]
      obtain ⟨b, off, rfl, hbl, c0, c1, c2⟩ := sl_ver H.out hx
      clear hse hx
      generalize upTo l at_ = u at *
      cases hd : x.dead
      · rw [hd] at c2 hta
        have hd' := Lib.hid hd
        clear hd
        go_enter Try.func39, Try.ntmps39
        go_wp2_with fail
        refine (good_calls l _ n cap _ H.out).mono ?_
        rw [hg]
        rintro e w' ⟨rfl, hb⟩
        clear hg
        go_wp2_with fail
        refine (HU.out _ (H.out.below hb)).mono ?_
        rintro e w'' ⟨rfl, hb2⟩
        have hb3 := hb.trans (hb2.mono hb.size)
        obtain ⟨hc, -⟩ := bcell hb3
        clear hb hb2
        go_wp2_with fail
        refine (clone_calls _ _ _ _ _ ((H.out.below hb3).drop (k := u - 1) (by omega)) (by omega)).mono ?_
        rintro e w3 ⟨v, rfl, hv, hb4⟩
        go_wp2
        go_ret
        exact ⟨_, rfl, by rw [hfin.out, hta.out]; exact hv.mono fun b hb => Nat.le_trans hb3.size hb, hb3.trans (hb4.mono hb3.size)⟩
      · rw [hd] at c2 hta
        have hd' := Lib.hid hd
        clear hd
        by_cases huc : u = cap
        · have hfin2 : Hid (l.drop u = []) := List.drop_of_length_le (by omega)
          have huc' := Lib.hid huc
          subst huc
          obtain rfl : n = u := by omega
          go_enter Try.func39, Try.ntmps39
          go_wp2_with fail
          refine (good_calls l _ n n _ H.out).mono ?_
          rw [hg]
          rintro e w' ⟨rfl, hb⟩
          clear hg
          go_wp2_with fail
          refine (HU.out _ (H.out.below hb)).mono ?_
          rintro e w'' ⟨rfl, hb2⟩
          have hb3 := hb.trans (hb2.mono hb.size)
          obtain ⟨hc, -⟩ := bcell hb3
          clear hb hb2
          go_wp2_with fail
          refine (clone_calls [] _ _ _ _ (Sl.none _ _ _ _ _ (by omega) (by intro h; cases h)) (by omega)).mono ?_
          rintro e w3 ⟨v, rfl, hv, hb4⟩
          go_wp2
          go_ret
          refine ⟨_, rfl, ?_, hb3.trans (hb4.mono hb3.size)⟩
          rw [hfin.out, hta.out, if_pos (by simp), hfin2.out]
          exact hv.mono fun b hb => Nat.le_trans hb3.size hb
        · go_enter Try.func39, Try.ntmps39
          go_wp2_with fail
          refine (good_calls l _ n cap _ H.out).mono ?_
          rw [hg]
          rintro e w' ⟨rfl, hb⟩
          clear hg
          go_wp2_with fail
          refine (HU.out _ (H.out.below hb)).mono ?_
          rintro e w'' ⟨rfl, hb2⟩
          have hb3 := hb.trans (hb2.mono hb.size)
          obtain ⟨hc, -⟩ := bcell hb3
          clear hb hb2
          go_wp2_with fail
          refine (clone_calls _ _ _ _ _ ((H.out.below hb3).drop (k := u) (by omega)) (by omega)).mono ?_
          rintro e w3 ⟨v, rfl, hv, hb4⟩
          go_wp2
          go_ret
          exact ⟨_, rfl, by rw [hfin.out, hta.out]; exact hv.mono fun b hb => Nat.le_trans hb3.size hb, hb3.trans (hb4.mono hb3.size)⟩

end Go.Proofs.Ytnleldogmogkgaa
