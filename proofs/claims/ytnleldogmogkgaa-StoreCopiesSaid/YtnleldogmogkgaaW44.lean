import Derived.Test.YtnleldogmogkgaaW43
import Derived.Test.YtnleldogmogkgaaW9
/-! The document's put. -/
namespace Go.Proofs.Ytnleldogmogkgaa
open Go.RowKit Go.Op

theorem rput_fresh (l : List Ver) (v : Ver) (A : Option Addr) (n cap : Nat) (w : World) (hl : Sl tVer w (fun _ => True) (.slice A n cap) l) (hn : n ≤ 1000000) (h : canPut l v = true) :
    Calls Try.prog 70 #[.slice A n cap, .agg #[.int .i64 v.at_, .string v.val, .bool v.dead]] w fun e w' => ∃ P m c, e = .returned (.tuple #[.slice P m c, .bool true]) ∧ Hid (Sl tVer w' (fun b => w.heap.size ≤ b) (.slice P m c) (l ++ [v])) ∧ Hid (Below w.heap.size w w') := by
  obtain ⟨va, vs, vd⟩ := v
  cases vd
  · refine (rput_yes_false l va vs A n cap w hl hn h).mono fun e w' ⟨u, a, b, c⟩ => ?_
    obtain ⟨P, cp, rfl, -⟩ := b.form
    exact ⟨P, _, cp, a, b, c⟩
  · refine (rput_yes_true l va vs A n cap w hl hn h).mono fun e w' ⟨u, a, b, c⟩ => ?_
    obtain ⟨P, cp, rfl, -⟩ := b.form
    exact ⟨P, _, cp, a, b, c⟩
theorem addE_has {E : List Ent} (hr : Rising E) {m : Int} {p : Pair} {e : Ent} (hi : E[low E p.key]? = some e) (hk : e.key = p.key) : addE m E p = E.set (low E p.key) ⟨e.key, e.c ++ [verOf m p]⟩ := by
  have he := List.mem_of_getElem? hi
  have hh : hasK E p.key = true := by rw [hasK, List.any_eq_true]; exact ⟨e, he, by rw [hk]; simp⟩
  have hc : chainOf E p.key = e.c := by rw [← hk]; exact chainOf_mem hr he
  have hl := (List.getElem?_eq_some_iff.1 hi).1
  rw [addE, putE, hh, hc, List.set_eq_take_append_cons_drop, if_pos hl, hk]
  rfl
theorem addE_new {E : List Ent} {m : Int} {p : Pair} (hh : hasK E p.key = false) : addE m E p = (E.take (low E p.key) ++ ([(⟨p.key, []⟩ : Ent)] ++ E.drop (low E p.key))).set (low E p.key) ⟨p.key, [] ++ [verOf m p]⟩ := by
  have hf : findK E p.key = none := by
    cases h : findK E p.key with
    | none => rfl
    | some e => rw [hasK_find, h] at hh; cases hh
  have hl := low_le E p.key
  rw [addE, putE, hh, chainOf_none hf, List.set_append_right _ _ (by rw [List.length_take]; omega), List.length_take, Nat.min_eq_left hl, Nat.sub_self]
  rfl
theorem new_at {E : List Ent} {p : Pair} : (E.take (low E p.key) ++ ([(⟨p.key, []⟩ : Ent)] ++ E.drop (low E p.key)))[low E p.key]? = some (⟨p.key, []⟩ : Ent) := by
  have hl := low_le E p.key
  rw [List.getElem?_append_right (by rw [List.length_take]; omega), List.length_take, Nat.min_eq_left hl, Nat.sub_self]
  rfl
theorem Own.oneKey {w : World} {base g : Nat} {ok : Nat → Prop} {k : ByteArray} (h : Blk w g #[.string k, .slice none 0 0] 88) (hb : base ≤ g) : Own tKey w base 88 ok (.slice (some ⟨g, 0, none⟩) 1 1) [⟨k, []⟩] :=
  ⟨[.string k, .slice none 0 0], ⟨rfl, .inr ⟨g, 1, _, rfl, hb, h, Nat.le_refl _, by simp [maxLen], rfl, rfl⟩⟩, Cells.one (key_mk (e := ⟨k, []⟩) (Sl.nil _ _ _))⟩
theorem own_lo {α : Type} {t : Ty α} {w : World} {base base' : Nat} {e : TypeId} {ok : Nat → Prop} {v : Value} {l : List α} (h : Own t w base e ok v l) (hb : base' ≤ base) : Own t w base' e ok v l := by
  obtain ⟨cs, ⟨e1, hr⟩, h2⟩ := h
  refine ⟨cs, ⟨e1, ?_⟩, h2⟩
  rcases hr with hr | ⟨g, cap, cur, e2, h3, h4⟩
  · exact .inl hr
  · exact .inr ⟨g, cap, cur, e2, Nat.le_trans hb h3, h4⟩
theorem SlX.inb {α : Type} {t : Ty α} {w : World} {ok : Nat → Prop} {v : Value} {l : List α} (h : SlX t w ok v l) : SlX t w (fun b => ok b ∧ b < w.heap.size) v l := by
  obtain ⟨A, cap, cs, e, h1, h2, h3, h4⟩ := h
  exact ⟨A, cap, cs, e, h1, h2, h3.inb, h4⟩
theorem via7 {α β γ δ ε ζ η : Type} {Goal : Prop} (H : α → β → γ → δ → ε → ζ → η → Prop) {G : α → β → γ → δ → ε → ζ → η → Prop} (main : Hid (∀ a b c d e f g, H a b c d e f g → G a b c d e f g) → Goal) (key : ∀ a b c d e f g, H a b c d e f g → G a b c d e f g) : Goal := main key
theorem via4 {α β γ δ : Type} {Goal : Prop} (H : α → β → γ → δ → Prop) {G : α → β → γ → δ → Prop} (main : Hid (∀ a b c d, H a b c d → G a b c d) → Goal) (key : ∀ a b c d, H a b c d → G a b c d) : Goal := main key

set_option maxHeartbeats 16000000 in
set_option maxRecDepth 100000 in
theorem rputk_calls (rb : Nat) (v : Value) (X : List Nat) (E : List Ent) (p : Pair) (m l f : Int) (w : World) (h : Rsx w rb v X E l f) (hr : Rising E) (hc : canPut (chainOf E p.key) (verOf m p) = true) (hq0 : E.length ≤ 100000) (hce : ∀ e ∈ E, e.c.length ≤ 1000000) :
    Calls Try.prog 60 #[.pointer (some ⟨rb, 0, none⟩), .agg #[.string p.key, .string p.val, .bool p.dead], .int .i64 m] w fun e w' => e = .returned (.tuple #[]) ∧ ∃ v' X', Rsx w' rb v' X' (addE m E p) l f ∧ Chg rb rb v w w' ∧ Kin w v v' ∧ Xin w X X' := by
  obtain ⟨A, c, hv, -⟩ : ∃ A c, v = .slice A E.length c ∧ True := by
    obtain ⟨A, c, e, -⟩ := h.far.form
    exact ⟨A, c, e, trivial⟩
  subst hv
  obtain ⟨q, hq⟩ : ∃ q, E.length = q := ⟨_, rfl⟩
  rw [hq] at h hq0 ⊢
  obtain ⟨z, hz⟩ : ∃ z, w.heap.size = z := ⟨_, rfl⟩
  have HLN := Lib.hid hq
  have hfar := h.far
  have hcap := hfar.length.2
  have HZ := Lib.hid hz
  have HL : Hid (Sl tKey w (fun b => b < z) (.slice A q c) E) := hfar.mono fun b hb => by rw [← hz]; exact hb.2
  have HR := Lib.hid hr
  have HC := Lib.hid hc
  have HCE := Lib.hid hce
  have hba := (Below.refl w.heap.size w).alloc (Nat.le_refl _) (.cells #[.string p.key, .string p.val, .bool p.dead] 35)
  have HB0 : Hid (Below z w (w.alloc (.cells #[.string p.key, .string p.val, .bool p.dead] 35))) := by rw [← hz]; exact hba
  have HP0 : Hid (Blk (w.alloc (.cells #[.string p.key, .string p.val, .bool p.dead] 35)) z #[.string p.key, .string p.val, .bool p.dead] 35) := by rw [← hz]; exact Blk.new _ _ _
  have hrz : rb < z := by rw [← hz]; exact h.blk.lt
  have HH := Lib.hid h
  have HRB := Lib.hid h.blk
  have hlow := low_le E p.key
  rw [hq] at hlow
  have HAT := Lib.hid (at_low hr p.key)
  obtain ⟨lo, hlo⟩ : ∃ lo, low E p.key = lo := ⟨_, rfl⟩
  have HLO := Lib.hid hlo
  rw [hlo] at hlow HAT
  clear h hr hc hce hba hq hlo hfar
  go_enter Try.func60, Try.ntmps60
  go_wp2
  go_loopw [6] (fun i wr => ∃ j : Nat, i = .int .i64 j ∧ j ≤ lo ∧ Hid (Below z w wr) ∧ Hid (Blk wr z #[.string p.key, .string p.val, .bool p.dead] 35) ∧ Hid (j + low (E.drop j) p.key = low E p.key)) (fun i _ => q + 1 - (intOf i).toNat)
  case atStart => exact ⟨0, rfl, by omega, HB0, HP0, by show _ = _; simp⟩
  case round =>
    obtain ⟨j, rfl, hj, hB, hP, hLJ⟩ := hrel
    clear HB0 HP0
    have c0 := (HRB.out.below hB.out hrz).cell 0
    have y0 := hP.out.cell 0
    have hLW : Hid (Sl tKey wr (fun _ => True) (.slice A q c) E) := (HL.out.step fun b hb => hB.out.block b hb).mono fun _ _ => trivial
    have hzr : z < wr.heap.size := hP.out.lt
    by_cases hjl : j = lo
    · subst hjl
      by_cases hjq : j < q
      · obtain ⟨x, hx⟩ := some_at (show j < E.length by rw [HLN.out]; exact hjq)
        obtain ⟨g, off, P, k, cp, rfl, hg, x0, x1, hxs⟩ := sl_key hLW.out hx
        have hld := low_drop hLJ.out hx
        rw [HLO.out] at hld
        have hkx : klt x.key p.key = false := by
          cases hkx : klt x.key p.key
          · rfl
          · have := hld.1 hkx; omega
        have hat : hasK E p.key = (x.key.toList == p.key.toList) := by rw [HAT.out, hx]
        unfold klt at hkx
        have HAX := Lib.hid hat
        clear hld hat
        go_wp2
        go_quiet (fail)
        obtain ⟨W1, hW1⟩ : ∃ W1, wr.drewN nq = W1 := ⟨_, rfl⟩
        have hb1 : Below wr.heap.size wr W1 := by rw [← hW1]; exact below_drewN (Below.refl _ _) _
        rw [hW1]
        clear hW1
        have hBE := hB.out.trans (hb1.mono (by omega))
        have hPE := hP.out.below hb1 hP.out.lt
        have y0 := hPE.cell 0
        have y1 := hPE.cell 1
        have y2 : W1.cell? ⟨z, 2, none⟩ = some (.bool p.dead) := hPE.cell 2
        have c0 := (HRB.out.below hBE hrz).cell 0
        have hzW : z < W1.heap.size := hPE.lt
        have hrW : rb < W1.heap.size := Nat.lt_trans hrz hzW
        have hgW1 : g < W1.heap.size := Nat.lt_of_lt_of_le hg hb1.size
        have x0 := (hb1.cell hg).trans x0
        have hjq1 : ((j : Int) == (q : Int)) = false := by rw [beq_eq_false_iff_ne]; omega
        cases hkk : (x.key.toList == p.key.toList)
        · have HNO := Lib.hid (HAX.out.trans hkk)
          clear hkx
          go_wp2
          go_quiet (fail)
          obtain ⟨W2, hW2⟩ : ∃ W2, W1.drewN nq = W2 := ⟨_, rfl⟩
          have hb2 : Below wr.heap.size wr W2 := by rw [← hW2]; exact below_drewN hb1 _
          rw [hW2]
          clear hW2
          have hBE := hB.out.trans (hb2.mono (by omega))
          have hPE := hP.out.below hb2 hP.out.lt
          have y0 := hPE.cell 0
          have y1 := hPE.cell 1
          have y2 : W2.cell? ⟨z, 2, none⟩ = some (.bool p.dead) := hPE.cell 2
          have c0 := (HRB.out.below hBE hrz).cell 0
          have hzW : z < W2.heap.size := hPE.lt
          have hrW : rb < W2.heap.size := Nat.lt_trans hrz hzW
          clear hkk hx hxs x0 x1
          have hS2 := HH.out.below (show Below w.heap.size w W2 by rw [HZ.out]; exact hBE)
          have hSX := hS2.row.slx.inb
          have hmid := fun W' => run_slice_mid (P := Try.prog) (sz := 2) Try.underlying51 (by kernel_rfl) (some ⟨g, off, none⟩) (n := q) (cap := c) (k := j) (by omega) W'
          obtain ⟨B5, c5, hfrom, hSF⟩ := run_slice_fromX (t := tKey) (P := Try.prog) Try.underlying51 (by kernel_rfl) (by decide) hSX (k := j) (by omega)
          have HSF := Lib.hid hSF
          have HSX := Lib.hid hSX
          have HS2 := Lib.hid hS2
          have HBE := Lib.hid hBE
          have HPE := Lib.hid hPE
          clear hSF hSX hS2 hBE hPE
          have hbW : Below W2.heap.size W2 W2 := Below.refl _ _
          have hXlt : Hid (∀ b ∈ X, b < W2.heap.size) := fun b hm => HS2.out.lt b hm
          go_wp2
          apply via7 (fun (A3 : Option Addr) (n3 c3 : Nat) A4 n4 c4 w4 => Hid (Own tKey w4 W2.heap.size 88 (· ∉ X) (.slice A4 n4 c4) (E.take j ++ ([⟨p.key, []⟩] ++ E.drop j))) ∧ Hid (Below W2.heap.size W2 w4))
          case main =>
            intro HKEY
            go_region_law (first
              | (refine step_appSl (o := ⟨some 69, _, _, _, _, _⟩) (t := tKey) (ok := (· ∉ X)) (l := [⟨p.key, []⟩]) (m := E.drop j) (w0 := W2) W2.heap.size rfl _ _ 51 88 _ 40 rfl Try.underlying51 info88 rfl (by decide) (by decide) rfl rfl ?_ ?_ ?_ ?_ ?_ ?_
                 · refine Own.oneKey (g := W2.heap.size) ?_ (by omega); (simp only [Blk, alloc_heap, drew_heap]; simp; done)
                 · refine (SlX.below HSF.out ?_).mono fun b hb => ⟨hb.1.1, fun e => by have e : some W2.heap.size = some b := e; injection e with e; have := hb.2; omega⟩; repeat (first | with_reducible exact hbW | apply Below.drew | refine Below.alloc ?_ (by first | omega | (simp; omega)) _)
                 · repeat (first | with_reducible exact hbW | apply Below.drew | refine Below.alloc ?_ (by first | omega | (simp; omega)) _)
                 · simp
                 · simp; have := HLN.out; omega
                 intro v3 w3 hO3 hB3 hG3 _
                 obtain ⟨A3, c3, rfl, -⟩ := hO3.form
                 obtain ⟨k3, hk3⟩ : ∃ k, ([(⟨p.key, []⟩ : Ent)] ++ E.drop j).length = k := ⟨_, rfl⟩
                 rw [hk3] at hO3 ⊢
                 have hc3 := (hB3.cell hrW).trans c0
                 have hf3 : w3.frozen? ⟨rb, 0, none⟩ = false := (HS2.out.blk.below hB3 hrW).frozen 0
                 have HK3 := Lib.hid hk3
                 have HO3 := Lib.hid hO3
                 have HB3 := Lib.hid hB3
                 clear hk3 hO3 hB3 hG3)
              | (refine step_appGrowX (o := ⟨some 70, _, _, _, _, _⟩) (t := tKey) (ok := (· ∉ X)) (l := E.take j) (m := [⟨p.key, []⟩] ++ E.drop j) rfl _ _ 51 88 _ 40 rfl Try.underlying51 info88 rfl (by decide) (by decide) rfl rfl (((SlX.clip HSX.out (by omega)).below HB3.out).mono fun b hb => hb.1.1) ?_ ?_ ?_ ?_
                 · exact HO3.out.slx.mono fun b hb => hb.1
                 · have := HK3.out; simp at this; omega
                 · have := HK3.out; simp at this; have := HLN.out; omega
                 intro v4 w4 hO4 hB4
                 obtain ⟨A4, c4, rfl, -⟩ := hO4.form
                 have hc4 := (hB4.cell (Nat.lt_of_lt_of_le hrW HB3.out.size)).trans hc3
                 have hf4 : w4.frozen? ⟨rb, 0, none⟩ = false := (HS2.out.blk.below (HB3.out.trans (hB4.mono HB3.out.size)) hrW).frozen 0
                 obtain ⟨k4, hk4⟩ : ∃ k, (E.take j ++ ([(⟨p.key, []⟩ : Ent)] ++ E.drop j)).length = k := ⟨_, rfl⟩
                 rw [hk4] at hO4 ⊢
                 have HB4 := Lib.hid (HB3.out.trans (hB4.mono HB3.out.size))
                 have HO4 := Lib.hid (own_lo hO4 HB3.out.size)
                 clear hO4 hB4 hk4))
            all_goals exact HKEY.out A3 k3 c3 A4 k4 c4 w4 ⟨HO4, HB4⟩
          case key =>
            intro A3 n3 c3 A4 n4 c4 w4 ⟨HO4, HB4⟩
            have hrn := HS2.out.renew (w4 := w4) (b0 := W2.heap.size) HB4.out (Nat.le_refl _) HO4.out
            have hzr2 : z ≠ rb := by omega
            obtain ⟨W5, hW5⟩ : ∃ W5, w4.setCell ⟨rb, 0, none⟩ (.slice A4 n4 c4) = W5 := ⟨_, rfl⟩
            have hP5 : Blk W5 z #[.string p.key, .string p.val, .bool p.dead] 35 := by rw [← hW5]; exact (HPE.out.below HB4.out hzW).far hzr2 _
            have hlen4 := HO4.out.sl.length.1
            obtain ⟨E4, hE4⟩ : ∃ E4, E.take j ++ ([(⟨p.key, []⟩ : Ent)] ++ E.drop j) = E4 := ⟨_, rfl⟩
            rw [hW5, hE4] at hrn
            rw [hW5]
            rw [hE4] at hlen4
            have hi4 : E4[j]? = some ⟨p.key, []⟩ := by
              rw [← hE4]
              have := new_at (E := E) (p := p)
              rw [HLO.out] at this; exact this
            obtain ⟨hS4, hC5, hK5, hX5⟩ := hrn
            have hj4 : j < n4 := by rw [← hlen4]; exact (List.getElem?_eq_some_iff.1 hi4).1
            obtain ⟨gA, oA, P5, k5, cp5, rfl, hg5, -, x1, hxs5⟩ := sl_key (hS4.far.mono (ok' := fun _ => True) fun _ _ => trivial) hi4
            obtain ⟨g', cap', eg, hgl', hgX', hgr', fz'⟩ := hS4.row_of hi4
            injection eg with eg1 eg2 eg3
            injection eg1 with eg1
            injection eg1 with eg4 eg5
            subst eg4 eg5 eg3
            rw [Nat.zero_add] at x1
            have HE4 := Lib.hid hE4
            have HLE4 := Lib.hid hlen4
            have HC5 := Lib.hid hC5
            have HK5 := Lib.hid hK5
            have HX5 := Lib.hid hX5
            have HXS := Lib.hid hxs5
            have HFZ := Lib.hid fz'
            have y0 := hP5.cell 0
            have y1 := hP5.cell 1
            have y2 : W5.cell? ⟨z, 2, none⟩ = some (.bool p.dead) := hP5.cell 2
            have hzW5 : z < W5.heap.size := hP5.lt
            have c0 := hS4.blk.cell 0
            have hrW5 : rb < W5.heap.size := hS4.blk.lt
            clear hP5 hE4 hlen4 hC5 hK5 hX5 hxs5 fz' eg2 hW5 HO4 HB4
            have HS4 := Lib.hid hS4
            have HI4 := Lib.hid hi4
            have h70 : Hid (∀ W', Below W5.heap.size W5 W' → Calls Try.prog 70 #[.slice P5 k5 cp5, .agg #[.int .i64 m, .string p.val, .bool p.dead]] W' fun e w' => ∃ P2 m2 c2, e = .returned (.tuple #[.slice P2 m2 c2, .bool true]) ∧ Hid (Sl tVer w' (fun b => W5.heap.size ≤ b) (.slice P2 m2 c2) (([] : List Ver) ++ [verOf m p])) ∧ Hid (Below W5.heap.size W5 w')) := fun W' hb => by
              refine (rput_fresh (([] : List Ver)) (verOf m p) P5 k5 cp5 W' (HXS.out.below hb) (by have h1 := HXS.out.length.1; simp at h1; omega) (by have h1 := HC.out; have hf : findK E p.key = none := (by cases h : findK E p.key with | none => rfl | some e => have h2 := HNO.out; rw [hasK_find, h] at h2; cases h2); rw [chainOf_none hf] at h1; exact h1)).mono ?_
              rintro e w' ⟨P2, m2, c2, h1, h2, h3⟩
              exact ⟨P2, m2, c2, h1, h2.out.mono fun b h => Nat.le_trans hb.size h, hb.trans (h3.out.mono hb.size)⟩
            have hbW : Below W5.heap.size W5 W5 := Below.refl _ _
            clear hS4 hi4 
            go_wp2
            apply via4 (fun P2 m2 c2 w6 => Hid (Sl tVer w6 (fun b => W5.heap.size ≤ b) (.slice P2 m2 c2) (([] : List Ver) ++ [verOf m p])) ∧ Hid (Below W5.heap.size W5 w6))
            case main =>
              intro HKEY
              go_region_law (first
                | (go_simp; go_at_call 70; refine (h70.out _ ?_).mono ?_; (focus (repeat (first | with_reducible exact hbW | apply Below.drew))); rintro e w6 ⟨P2, m2, c2, rfl, hR1, hR2⟩))
              all_goals exact HKEY.out _ _ _ _ ⟨hR1, hR2⟩
            case key =>
              intro P2 m2 c2 w6 ⟨hR1, hR2⟩
              have c0 := (HS4.out.blk.below hR2.out HS4.out.blk.lt).cell 0
              have fz := fun o => (hR2.out.frozen (p := ⟨gA, o, none⟩) (show gA < W5.heap.size from hgl')).trans (HFZ.out o)
              have x1 := (hR2.out.cell (p := ⟨gA, j * 2 + 1, none⟩) (show gA < W5.heap.size from hgl')).trans x1
              clear y0 y1 y2 h70
              go_wp2
              refine bodyPost_end (v := .tuple #[]) (results_none Try.results60 _ _ _) rfl ⟨rfl, ?_⟩
              obtain ⟨d1, d2⟩ := Rsx.laid (w := W5) (by rw [HLE4.out]; exact HS4.out) HI4.out hR2.out hR1.out
              rw [HLE4.out] at d1 d2
              have had := addE_new (m := m) HNO.out
              rw [HLO.out, HE4.out] at had
              rw [had]
              have hsz := HBE.out.size
              have hBw : Below w.heap.size w W2 := by rw [HZ.out]; exact HBE.out
              exact ⟨_, _, d1, ((Chg.of_below hBw).trans (Kin.refl _ _) HC5.out).trans ((Kin.refl _ _).trans HK5.out hsz) d2, (Kin.refl _ _).trans HK5.out hsz, (Xin.refl _ _).trans HX5.out hsz⟩
        · have hkp : x.key = p.key := by rw [beq_key, decide_eq_true_eq] at hkk; exact hkk
          clear hkx
          go_wp2
          go_quiet (fail)
          obtain ⟨W2, hW2⟩ : ∃ W2, W1.drewN nq = W2 := ⟨_, rfl⟩
          have hb2 : Below wr.heap.size wr W2 := by rw [← hW2]; exact below_drewN hb1 _
          rw [hW2]
          clear hW2
          have hBE := hB.out.trans (hb2.mono (by omega))
          have hPE := hP.out.below hb2 hP.out.lt
          have y0 := hPE.cell 0
          have y1 := hPE.cell 1
          have y2 : W2.cell? ⟨z, 2, none⟩ = some (.bool p.dead) := hPE.cell 2
          have c0 := (HRB.out.below hBE hrz).cell 0
          have hzW : z < W2.heap.size := hPE.lt
          have hrW : rb < W2.heap.size := Nat.lt_trans hrz hzW
          have hgW2 : g < W2.heap.size := Nat.lt_of_lt_of_le hg hb2.size
          have x1 := (hb2.cell (p := ⟨g, off + j * 2 + 1, none⟩) hg).trans x1
          have hS4 := HH.out.below (by rw [HZ.out]; exact hBE)
          have hi4 := hx
          obtain ⟨g', cap', eg, hgl', hgX', hgr', fz'⟩ := hS4.row_of hi4
          injection eg with eg1 eg2 eg3
          injection eg1 with eg1
          injection eg1 with eg4 eg5
          subst eg4 eg5 eg3
          rw [Nat.zero_add] at x1
          have HXS := Lib.hid (hxs.below hb2)
          have HKP := Lib.hid hkp
          have HFZ := Lib.hid fz'
          have HS4 := Lib.hid hS4
          have HI4 := Lib.hid hi4
          have h70 : Hid (∀ W', Below W2.heap.size W2 W' → Calls Try.prog 70 #[.slice P k cp, .agg #[.int .i64 m, .string p.val, .bool p.dead]] W' fun e w' => ∃ P2 m2 c2, e = .returned (.tuple #[.slice P2 m2 c2, .bool true]) ∧ Hid (Sl tVer w' (fun b => W2.heap.size ≤ b) (.slice P2 m2 c2) (x.c ++ [verOf m p])) ∧ Hid (Below W2.heap.size W2 w')) := fun W' hb => by
            refine (rput_fresh (x.c) (verOf m p) P k cp W' (HXS.out.below hb) (by have h1 := HXS.out.length.1; have h2 := HCE.out x (List.mem_of_getElem? HI4.out); omega) (by have h1 := HC.out; rw [← HKP.out, chainOf_mem HR.out (List.mem_of_getElem? HI4.out)] at h1; exact h1)).mono ?_
            rintro e w' ⟨P2, m2, c2, h1, h2, h3⟩
            exact ⟨P2, m2, c2, h1, h2.out.mono fun b h => Nat.le_trans hb.size h, hb.trans (h3.out.mono hb.size)⟩
          have hbW : Below W2.heap.size W2 W2 := Below.refl _ _
          clear hS4 hi4 hx hxs hkk hkp fz' eg2
          go_wp2
          apply via4 (fun P2 m2 c2 w6 => Hid (Sl tVer w6 (fun b => W2.heap.size ≤ b) (.slice P2 m2 c2) (x.c ++ [verOf m p])) ∧ Hid (Below W2.heap.size W2 w6))
          case main =>
            intro HKEY
            go_region_law (first
              | (go_simp; go_at_call 70; refine (h70.out _ ?_).mono ?_; (focus (repeat (first | with_reducible exact hbW | apply Below.drew))); rintro e w6 ⟨P2, m2, c2, rfl, hR1, hR2⟩))
            all_goals exact HKEY.out _ _ _ _ ⟨hR1, hR2⟩
          case key =>
            intro P2 m2 c2 w6 ⟨hR1, hR2⟩
            have c0 := (HS4.out.blk.below hR2.out HS4.out.blk.lt).cell 0
            have fz := fun o => (hR2.out.frozen (p := ⟨g, o, none⟩) (show g < W2.heap.size from hgl')).trans (HFZ.out o)
            have x1 := (hR2.out.cell (p := ⟨g, j * 2 + 1, none⟩) (show g < W2.heap.size from hgl')).trans x1
            clear y0 y1 y2 h70
            go_wp2
            refine bodyPost_end (v := .tuple #[]) (results_none Try.results60 _ _ _) rfl ⟨rfl, ?_⟩
            obtain ⟨d1, d2⟩ := Rsx.laid (w := W2) (by rw [HLN.out]; exact HS4.out) HI4.out hR2.out hR1.out
            rw [HLN.out] at d1 d2
            have had := addE_has HR.out (m := m) (p := p) (by rw [HLO.out]; exact HI4.out) HKP.out
            rw [HLO.out] at had
            rw [had]
            exact ⟨_, _, d1, (Chg.of_below (by rw [HZ.out]; exact hBE)).trans (Kin.refl _ _) d2, Kin.refl _ _, Xin.refl _ _⟩
      · have hjq' : j = q := by omega
        subst hjq'
        have HNO := Lib.hid (show hasK E p.key = false by rw [HAT.out, List.getElem?_eq_none (by rw [HLN.out]; exact Nat.le_refl _)])
        go_wp2
        go_quiet (fail)
        obtain ⟨W1, hW1⟩ : ∃ W1, wr.drewN nq = W1 := ⟨_, rfl⟩
        have hb1 : Below wr.heap.size wr W1 := by rw [← hW1]; exact below_drewN (Below.refl _ _) _
        rw [hW1]
        clear hW1
        have hBE := hB.out.trans (hb1.mono (by omega))
        have hPE := hP.out.below hb1 hP.out.lt
        have y0 := hPE.cell 0
        have y1 := hPE.cell 1
        have y2 : W1.cell? ⟨z, 2, none⟩ = some (.bool p.dead) := hPE.cell 2
        have c0 := (HRB.out.below hBE hrz).cell 0
        have hzW : z < W1.heap.size := hPE.lt
        have hrW : rb < W1.heap.size := Nat.lt_trans hrz hzW
        go_wp2
        go_quiet (fail)
        obtain ⟨W2, hW2⟩ : ∃ W2, W1.drewN nq = W2 := ⟨_, rfl⟩
        have hb2 : Below wr.heap.size wr W2 := by rw [← hW2]; exact below_drewN hb1 _
        rw [hW2]
        clear hW2
        have hBE := hB.out.trans (hb2.mono (by omega))
        have hPE := hP.out.below hb2 hP.out.lt
        have y0 := hPE.cell 0
        have y1 := hPE.cell 1
        have y2 : W2.cell? ⟨z, 2, none⟩ = some (.bool p.dead) := hPE.cell 2
        have c0 := (HRB.out.below hBE hrz).cell 0
        have hzW : z < W2.heap.size := hPE.lt
        have hrW : rb < W2.heap.size := Nat.lt_trans hrz hzW
        have hS2 := HH.out.below (show Below w.heap.size w W2 by rw [HZ.out]; exact hBE)
        have hSX := hS2.row.slx.inb
        have hmid := fun W' => run_slice_mid (P := Try.prog) (sz := 2) Try.underlying51 (by kernel_rfl) A (n := j) (cap := c) (k := j) (by omega) W'
        obtain ⟨B5, c5, hfrom, hSF⟩ := run_slice_fromX (t := tKey) (P := Try.prog) Try.underlying51 (by kernel_rfl) (by decide) hSX (k := j) (by omega)
        rw [Nat.sub_self] at hfrom hSF
        have HSF := Lib.hid hSF
        have HSX := Lib.hid hSX
        have HS2 := Lib.hid hS2
        have HBE := Lib.hid hBE
        have HPE := Lib.hid hPE
        clear hSF hSX hS2 hBE hPE
        have hbW : Below W2.heap.size W2 W2 := Below.refl _ _
        have hXlt : Hid (∀ b ∈ X, b < W2.heap.size) := fun b hm => HS2.out.lt b hm
        go_wp2
        apply via7 (fun (A3 : Option Addr) (n3 c3 : Nat) A4 n4 c4 w4 => Hid (Own tKey w4 W2.heap.size 88 (· ∉ X) (.slice A4 n4 c4) (E.take j ++ ([⟨p.key, []⟩] ++ E.drop j))) ∧ Hid (Below W2.heap.size W2 w4))
        case main =>
          intro HKEY
          go_region_law (first
            | (refine step_appSl (o := ⟨some 69, _, _, _, _, _⟩) (t := tKey) (ok := (· ∉ X)) (l := [⟨p.key, []⟩]) (m := E.drop j) (w0 := W2) W2.heap.size rfl _ _ 51 88 _ 40 rfl Try.underlying51 info88 rfl (by decide) (by decide) rfl rfl ?_ ?_ ?_ ?_ ?_ ?_
               · refine Own.oneKey (g := W2.heap.size) ?_ (by omega); (simp only [Blk, alloc_heap, drew_heap]; simp; done)
               · refine (SlX.below HSF.out ?_).mono fun b hb => ⟨hb.1.1, fun e => by have e : some W2.heap.size = some b := e; injection e with e; have := hb.2; omega⟩; repeat (first | with_reducible exact hbW | apply Below.drew | refine Below.alloc ?_ (by first | omega | (simp; omega)) _)
               · repeat (first | with_reducible exact hbW | apply Below.drew | refine Below.alloc ?_ (by first | omega | (simp; omega)) _)
               · simp
               · simp; have := HLN.out; omega
               intro v3 w3 hO3 hB3 hG3 _
               obtain ⟨A3, c3, rfl, -⟩ := hO3.form
               obtain ⟨k3, hk3⟩ : ∃ k, ([(⟨p.key, []⟩ : Ent)] ++ E.drop j).length = k := ⟨_, rfl⟩
               rw [hk3] at hO3 ⊢
               have hc3 := (hB3.cell hrW).trans c0
               have hf3 : w3.frozen? ⟨rb, 0, none⟩ = false := (HS2.out.blk.below hB3 hrW).frozen 0
               have HK3 := Lib.hid hk3
               have HO3 := Lib.hid hO3
               have HB3 := Lib.hid hB3
               clear hk3 hO3 hB3 hG3)
            | (refine step_appGrowX (o := ⟨some 70, _, _, _, _, _⟩) (t := tKey) (ok := (· ∉ X)) (l := E.take j) (m := [⟨p.key, []⟩] ++ E.drop j) rfl _ _ 51 88 _ 40 rfl Try.underlying51 info88 rfl (by decide) (by decide) rfl rfl (((SlX.clip HSX.out (by omega)).below HB3.out).mono fun b hb => hb.1.1) ?_ ?_ ?_ ?_
               · exact HO3.out.slx.mono fun b hb => hb.1
               · have := HK3.out; simp at this; omega
               · have := HK3.out; simp at this; have := HLN.out; omega
               intro v4 w4 hO4 hB4
               obtain ⟨A4, c4, rfl, -⟩ := hO4.form
               have hc4 := (hB4.cell (Nat.lt_of_lt_of_le hrW HB3.out.size)).trans hc3
               have hf4 : w4.frozen? ⟨rb, 0, none⟩ = false := (HS2.out.blk.below (HB3.out.trans (hB4.mono HB3.out.size)) hrW).frozen 0
               obtain ⟨k4, hk4⟩ : ∃ k, (E.take j ++ ([(⟨p.key, []⟩ : Ent)] ++ E.drop j)).length = k := ⟨_, rfl⟩
               rw [hk4] at hO4 ⊢
               have HB4 := Lib.hid (HB3.out.trans (hB4.mono HB3.out.size))
               have HO4 := Lib.hid (own_lo hO4 HB3.out.size)
               clear hO4 hB4 hk4))
          all_goals exact HKEY.out A3 k3 c3 A4 k4 c4 w4 ⟨HO4, HB4⟩
        case key =>
          intro A3 n3 c3 A4 n4 c4 w4 ⟨HO4, HB4⟩
          have hrn := HS2.out.renew (w4 := w4) (b0 := W2.heap.size) HB4.out (Nat.le_refl _) HO4.out
          have hzr2 : z ≠ rb := by omega
          obtain ⟨W5, hW5⟩ : ∃ W5, w4.setCell ⟨rb, 0, none⟩ (.slice A4 n4 c4) = W5 := ⟨_, rfl⟩
          have hP5 : Blk W5 z #[.string p.key, .string p.val, .bool p.dead] 35 := by rw [← hW5]; exact (HPE.out.below HB4.out hzW).far hzr2 _
          have hlen4 := HO4.out.sl.length.1
          obtain ⟨E4, hE4⟩ : ∃ E4, E.take j ++ ([(⟨p.key, []⟩ : Ent)] ++ E.drop j) = E4 := ⟨_, rfl⟩
          rw [hW5, hE4] at hrn
          rw [hW5]
          rw [hE4] at hlen4
          have hi4 : E4[j]? = some ⟨p.key, []⟩ := by
            rw [← hE4]
            have := new_at (E := E) (p := p)
            rw [HLO.out] at this; exact this
          obtain ⟨hS4, hC5, hK5, hX5⟩ := hrn
          have hj4 : j < n4 := by rw [← hlen4]; exact (List.getElem?_eq_some_iff.1 hi4).1
          obtain ⟨gA, oA, P5, k5, cp5, rfl, hg5, -, x1, hxs5⟩ := sl_key (hS4.far.mono (ok' := fun _ => True) fun _ _ => trivial) hi4
          obtain ⟨g', cap', eg, hgl', hgX', hgr', fz'⟩ := hS4.row_of hi4
          injection eg with eg1 eg2 eg3
          injection eg1 with eg1
          injection eg1 with eg4 eg5
          subst eg4 eg5 eg3
          rw [Nat.zero_add] at x1
          have HE4 := Lib.hid hE4
          have HLE4 := Lib.hid hlen4
          have HC5 := Lib.hid hC5
          have HK5 := Lib.hid hK5
          have HX5 := Lib.hid hX5
          have HXS := Lib.hid hxs5
          have HFZ := Lib.hid fz'
          have y0 := hP5.cell 0
          have y1 := hP5.cell 1
          have y2 : W5.cell? ⟨z, 2, none⟩ = some (.bool p.dead) := hP5.cell 2
          have hzW5 : z < W5.heap.size := hP5.lt
          have c0 := hS4.blk.cell 0
          have hrW5 : rb < W5.heap.size := hS4.blk.lt
          clear hP5 hE4 hlen4 hC5 hK5 hX5 hxs5 fz' eg2 hW5 HO4 HB4
          have HS4 := Lib.hid hS4
          have HI4 := Lib.hid hi4
          have h70 : Hid (∀ W', Below W5.heap.size W5 W' → Calls Try.prog 70 #[.slice P5 k5 cp5, .agg #[.int .i64 m, .string p.val, .bool p.dead]] W' fun e w' => ∃ P2 m2 c2, e = .returned (.tuple #[.slice P2 m2 c2, .bool true]) ∧ Hid (Sl tVer w' (fun b => W5.heap.size ≤ b) (.slice P2 m2 c2) (([] : List Ver) ++ [verOf m p])) ∧ Hid (Below W5.heap.size W5 w')) := fun W' hb => by
            refine (rput_fresh (([] : List Ver)) (verOf m p) P5 k5 cp5 W' (HXS.out.below hb) (by have h1 := HXS.out.length.1; simp at h1; omega) (by have h1 := HC.out; have hf : findK E p.key = none := (by cases h : findK E p.key with | none => rfl | some e => have h2 := HNO.out; rw [hasK_find, h] at h2; cases h2); rw [chainOf_none hf] at h1; exact h1)).mono ?_
            rintro e w' ⟨P2, m2, c2, h1, h2, h3⟩
            exact ⟨P2, m2, c2, h1, h2.out.mono fun b h => Nat.le_trans hb.size h, hb.trans (h3.out.mono hb.size)⟩
          have hbW : Below W5.heap.size W5 W5 := Below.refl _ _
          clear hS4 hi4 
          go_wp2
          apply via4 (fun P2 m2 c2 w6 => Hid (Sl tVer w6 (fun b => W5.heap.size ≤ b) (.slice P2 m2 c2) (([] : List Ver) ++ [verOf m p])) ∧ Hid (Below W5.heap.size W5 w6))
          case main =>
            intro HKEY
            go_region_law (first
              | (go_simp; go_at_call 70; refine (h70.out _ ?_).mono ?_; (focus (repeat (first | with_reducible exact hbW | apply Below.drew))); rintro e w6 ⟨P2, m2, c2, rfl, hR1, hR2⟩))
            all_goals exact HKEY.out _ _ _ _ ⟨hR1, hR2⟩
          case key =>
            intro P2 m2 c2 w6 ⟨hR1, hR2⟩
            have c0 := (HS4.out.blk.below hR2.out HS4.out.blk.lt).cell 0
            have fz := fun o => (hR2.out.frozen (p := ⟨gA, o, none⟩) (show gA < W5.heap.size from hgl')).trans (HFZ.out o)
            have x1 := (hR2.out.cell (p := ⟨gA, j * 2 + 1, none⟩) (show gA < W5.heap.size from hgl')).trans x1
            clear y0 y1 y2 h70
            go_wp2
            refine bodyPost_end (v := .tuple #[]) (results_none Try.results60 _ _ _) rfl ⟨rfl, ?_⟩
            obtain ⟨d1, d2⟩ := Rsx.laid (w := W5) (by rw [HLE4.out]; exact HS4.out) HI4.out hR2.out hR1.out
            rw [HLE4.out] at d1 d2
            have had := addE_new (m := m) HNO.out
            rw [HLO.out, HE4.out] at had
            rw [had]
            have hsz := HBE.out.size
            have hBw : Below w.heap.size w W2 := by rw [HZ.out]; exact HBE.out
            exact ⟨_, _, d1, ((Chg.of_below hBw).trans (Kin.refl _ _) HC5.out).trans ((Kin.refl _ _).trans HK5.out hsz) d2, (Kin.refl _ _).trans HK5.out hsz, (Xin.refl _ _).trans HX5.out hsz⟩
    · have hjq : j < q := by omega
      obtain ⟨x, hx⟩ := some_at (show j < E.length by rw [HLN.out]; exact hjq)
      obtain ⟨g, off, P, k, cp, rfl, hg, x0, x1, hxs⟩ := sl_key hLW.out hx
      have hld := low_drop hLJ.out hx
      cases hkx : klt x.key p.key
      · have := hld.2 hkx; rw [HLO.out] at this; exact absurd this.symm hjl
      · have HLD := Lib.hid (hld.1 hkx)
        unfold klt at hkx
        clear hld hx hxs
        go_wp2
        go_quiet (fail)
        have HBn := Lib.hid (below_drewN hB.out nq)
        have HPn : Hid (Blk (wr.drewN nq) z #[.string p.key, .string p.val, .bool p.dead] 35) := hP.out.drewN _
        go_wp2
        go_roundw
        case rel => exact ⟨j + 1, by go_num, by omega, HBn, HPn, HLD⟩
        case measure => simp [intOf]; omega
end Go.Proofs.Ytnleldogmogkgaa
