import Derived.Test.YtidfogcilegloaaProg
import Derived.Test.YtidfogcilegloaaRep
import Derived.Test.YtidfogcilegloaaJ1
import Derived.WalkLawsBesides
import Derived.WalkSpells
import Derived.Deep.QuietTactic
import Derived.BigQuiet
import Derived.Laws.StructEq
import Derived.Test.YtidfogcilegloaaMap
namespace Go.Proofs.Ytidfogcilegloaa
open Go.RowKit

def Ver.enc (v : Ver) : List Value := [.int .i64 v.at_, .string v.val, .bool v.dead]
def tVer : Ty Ver := Ty.flat 3 Ver.enc (fun _ => rfl) (fun x u hu => by simp [Ver.enc] at hu; rcases hu with rfl | rfl | rfl <;> rfl)

theorem sl_ver {w : World} {ok : Nat → Prop} {A : Option Addr} {n cap : Nat} {l : List Ver} (h : Sl tVer w ok (.slice A n cap) l) {i : Nat} {x : Ver} (hi : l[i]? = some x) :
    ∃ b off, A = some ⟨b, off, none⟩ ∧ b < w.heap.size ∧ w.cell? ⟨b, off + i * 3, none⟩ = some (.int .i64 x.at_) ∧ w.cell? ⟨b, off + i * 3 + 1, none⟩ = some (.string x.val) ∧ w.cell? ⟨b, off + i * 3 + 2, none⟩ = some (.bool x.dead) := by
  obtain ⟨b, off, c, e, hb, hk, hc⟩ := h.at (by decide) hi
  obtain rfl : c = x.enc := hk
  exact ⟨b, off, e, World.block_lt_of_cell? w _ (hc 0 _ rfl), hc 0 _ rfl, hc 1 _ rfl, hc 2 _ rfl⟩
/-- Versions lean on nothing. -/
theorem ver_flat {w w' : World} {ok ok' : Nat → Prop} : ∀ {l : List Ver} {cs : List Value}, Cells tVer w ok l cs → Cells tVer w' ok' l cs
  | [], _, h => h
  | _ :: _, _, ⟨c, d, e, hk, hd⟩ => ⟨c, d, e, hk, ver_flat hd⟩
theorem Sl.xflat {w : World} {ok ok' : Nat → Prop} {v : Value} {l : List Ver} (h : Sl tVer w ok v l) : SlX tVer w ok' v l := by
  obtain ⟨A, cap, cs, e, h1, h2, h3, h4⟩ := h
  exact ⟨A, cap, cs, e, h1, h2, ver_flat h3, h4.mono fun _ _ => trivial⟩
theorem drop_at {α : Type} {l : List α} {k : Nat} {x : α} (h : l[k]? = some x) : l.drop k = x :: l.drop (k + 1) := by
  obtain ⟨h1, rfl⟩ := List.getElem?_eq_some_iff.1 h
  exact List.drop_eq_getElem_cons h1
theorem some_at {α : Type} {l : List α} {k : Nat} (h : k < l.length) : ∃ x, l[k]? = some x := ⟨l[k], List.getElem?_eq_getElem h⟩

theorem right_calls (v : Ver) (w : World) :
    Calls Try.prog 61 #[.agg #[.int .i64 v.at_, .string v.val, .bool v.dead]] w fun e w' => e = .returned (.bool v.right) ∧ Below w.heap.size w w' := by
  obtain ⟨a, s, d⟩ := v
  cases d <;>
  · go_enter Try.func61, Try.ntmps61
    go_wp2
    go_ret
    exact ⟨by simp [Ver.right], (Below.refl _ _).alloc (Nat.le_refl _) _⟩

/-- One round of Good. -/
theorem good_step {l : List Ver} {k : Nat} {x : Ver} {last : Int} (hg : good l = goodFrom last (l.drop k)) (hx : l[k]? = some x) :
    good l = (decide (last < x.at_) && x.right && goodFrom x.at_ (l.drop (k + 1))) := by rw [hg, drop_at hx]; rfl
theorem good_end {l : List Ver} {k : Nat} {last : Int} (hg : good l = goodFrom last (l.drop k)) (hk : l.length ≤ k) : true = good l := by rw [hg, List.drop_of_length_le hk]; rfl
theorem and3_no {a b c d : Bool} (hg : a = (b && c && d)) (h : b = false ∨ c = false) : false = a := by
  rw [hg]; rcases h with h | h <;> simp [h]
theorem and3_go {a b c d : Bool} (hg : a = (b && c && d)) (h : b = true) (h' : c = true) : a = d := by
  rw [hg]; simp [h, h']

theorem good_calls (l : List Ver) (A : Option Addr) (n cap : Nat) (w : World) (h : Sl tVer w (fun _ => True) (.slice A n cap) l) :
    Calls Try.prog 59 #[.slice A n cap] w fun e w' => e = .returned (.bool (good l)) ∧ Below w.heap.size w w' := by
  obtain ⟨hl, hcap, hm⟩ := h.length
  have H := Lib.hid h
  clear h
  go_enter Try.func59, Try.ntmps59
  go_wp2
  go_loopw [3, 8] (fun la i w' => ∃ (k : Nat) (last : Int), k ≤ n ∧ i = .int .i64 k ∧ la = .int .i64 last ∧ Hid (good l = goodFrom last (l.drop k)) ∧ Below w.heap.size w w')
    (fun _ i _ => n - (intOf i).toNat)
  case atStart => exact ⟨0, 0, by omega, rfl, rfl, rfl, Below.refl _ _⟩
  case round =>
    obtain ⟨k, last, hk, rfl, rfl, hg, hb⟩ := hrel
    have hz : w.heap.size ≤ wr.heap.size := hb.size
    by_cases hlt : k < n
    · obtain ⟨x, hx⟩ := some_at (show k < l.length by omega)
      obtain ⟨b, off, rfl, -, h0, h1, h2⟩ := sl_ver (H.out.below hb) hx
      have hs := Lib.hid (good_step hg.out hx)
      clear hx hg
      by_cases hla : last < x.at_
      · cases hr : x.right
        · go_wp2_with (go_at_call 61; refine (right_calls x _).mono ?_; rintro e w' ⟨rfl, hb'⟩)
          go_ret
          exact ⟨ret_bool (and3_no hs.out (.inr hr)), ((hb.alloc hz _).trans (hb'.mono (by simp; omega)))⟩
        · go_wp2_with (go_at_call 61; refine (right_calls x _).mono ?_; rintro e w' ⟨rfl, hb'⟩; obtain ⟨hc, -⟩ := bcell hb'; have hz' : wr.heap.size + 1 ≤ w'.heap.size := by { have := hb'.size; simp at this; exact this })
          go_roundw
          case rel => exact ⟨k + 1, x.at_, by omega, by go_num, rfl, and3_go hs.out (decide_eq_true (by assumption)) hr, ((hb.alloc hz _).trans (hb'.mono (by simp; omega)))⟩
          case measure => simp [intOf]; omega
      · go_wp2
        go_ret
        exact ⟨ret_bool (and3_no hs.out (.inl (decide_eq_false (by omega)))), hb.alloc hz _⟩
    · go_wp2
      go_ret
      exact ⟨ret_bool (good_end hg.out (by omega)), hb⟩

end Go.Proofs.Ytidfogcilegloaa
namespace Go.Proofs.Ytidfogcilegloaa
open Go.RowKit

/-- Search: the first number at which a test that rises says yes. The test: a function value over captured variables. -/
theorem search_calls (n : Nat) (F : Nat) (cap : Array Value) (p : Nat → Bool) (w : World) (hn : n ≤ 4611686018427387904)
    (hcf : ∀ (x : Value) (W : World), (callFunc F (#[x] ++ cap)).run Try.prog W = .ok (.enter F (#[x] ++ cap)) W)
    (hF : ∀ (i : Nat) (W : World), i < n → Below w.heap.size w W → Calls Try.prog F (#[.int .i64 i] ++ cap) W fun e W' => e = .returned (.bool (p i)) ∧ Below w.heap.size W W')
    (hp : ∀ i j, i ≤ j → j < n → p i = true → p j = true) :
    Calls Try.prog 71 #[.int .i64 n, .func (.func F) #[] cap] w fun e w' => ∃ r : Nat, e = .returned (.int .i64 r) ∧ r ≤ n ∧ (∀ i, i < r → p i = false) ∧ (∀ i, r ≤ i → i < n → p i = true) ∧ Below w.heap.size w w' := by
  have HF := Lib.hid hF
  have HP := Lib.hid hp
  clear hF hp
  go_enter Try.func71, Try.ntmps71
  go_wp2
  go_loopw [5, 6, 7] (fun i j _ w' => ∃ a b : Nat, a ≤ b ∧ b ≤ n ∧ i = .int .i64 a ∧ j = .int .i64 b ∧ Hid (∀ i, i < a → p i = false) ∧ Hid (∀ i, b ≤ i → i < n → p i = true) ∧ Below w.heap.size w w')
    (fun i j _ _ => (intOf j).toNat - (intOf i).toNat)
  case atStart => exact ⟨0, n, by omega, by omega, rfl, rfl, fun i hi => by omega, fun i h1 h2 => by omega, Below.refl _ _⟩
  case round =>
    obtain ⟨a, b, hab, hbn, rfl, rfl, h1, h2, hb⟩ := hrel
    by_cases hlt : a < b
    · have hF1 := Lib.hid (HF.out ((a + b) / 2) wr (by omega) hb)
      have ec : (((a + b) / 2 : Nat) : Int) = ((a : Int) + b) / 2 := by omega
      rw [ec] at hF1
      clear ec
      cases hp : p ((a + b) / 2)
      · rw [hp] at hF1
        go_wp2_with (refine hF1.out.mono ?_; rintro e w' ⟨rfl, hb'⟩)
        refine ⟨⟨(a + b) / 2 + 1, b, by omega, hbn, by go_num, rfl, ?_, h2, hb.trans hb'⟩, by simp [intOf]; omega⟩
        intro i hi
        cases hq : p i
        · rfl
        · exact absurd (HP.out i ((a + b) / 2) (by omega) (by omega) hq) (by simp [hp])
      · rw [hp] at hF1
        go_wp2_with (refine hF1.out.mono ?_; rintro e w' ⟨rfl, hb'⟩)
        refine ⟨⟨a, (a + b) / 2, by omega, by omega, rfl, by go_num, h1, fun i hi hn' => HP.out _ _ hi hn' hp, hb.trans hb'⟩, by simp [intOf]; omega⟩
    · go_wp2
      go_ret
      have : a = b := by omega
      subst this
      exact ⟨a, rfl, hbn, h1, h2, hb⟩

/-- The test of upTo: over two captured variables. -/
theorem after_calls (l : List Ver) (A : Option Addr) (n cap : Nat) (at_ : Int) (g h : Nat) (i : Nat) (x : Ver) (w : World) (hl : Sl tVer w (fun _ => True) (.slice A n cap) l)
    (hg : w.cell? ⟨g, 0, none⟩ = some (.slice A n cap)) (hh : w.cell? ⟨h, 0, none⟩ = some (.int .i64 at_)) (hx : l[i]? = some x) :
    Calls Try.prog 72 #[.int .i64 i, .pointer (some ⟨g, 0, none⟩), .pointer (some ⟨h, 0, none⟩)] w fun e w' => e = .returned (.bool (decide (at_ < x.at_))) ∧ Below w.heap.size w w' := by
  obtain ⟨hln, hcap, hm⟩ := hl.length
  have hi : i < n := by have := (List.getElem?_eq_some_iff.1 hx).1; omega
  obtain ⟨b, off, rfl, -, h0, h1, h2⟩ := sl_ver hl hx
  clear hl hx
  have hi0 : (0 : Int) ≤ (i : Int) := by omega
  have hi1 : (i : Int) < (n : Int) := by omega
  go_enter Try.func72, Try.ntmps72
  go_wp2
  go_quiet (fail)
  go_wp2
  go_ret
  exact ⟨rfl, below_drewN (Below.refl _ _) _⟩

theorem upTo_mono {l : List Ver} (hg : good l = true) {n : Int} {i j : Nat} (hij : i ≤ j) {x y : Ver} (hi : l[i]? = some x) (hj : l[j]? = some y) (h : n < x.at_) : n < y.at_ := by
  have h1 := upTo_spec (n := n) hg hi
  have h2 := upTo_spec (n := n) hg hj
  omega

theorem upTo_first {l : List Ver} (hg : good l = true) {n : Int} {r : Nat} (hr : r ≤ l.length) (h1 : ∀ i, i < r → decide (n < (l.getD i Ver.zero).at_) = false) (h2 : ∀ i, r ≤ i → i < l.length → decide (n < (l.getD i Ver.zero).at_) = true) : r = upTo l n := by
  have hu := upTo_le l n
  have key : ∀ i (h : i < l.length), (l.getD i Ver.zero).at_ ≤ n ↔ i < upTo l n := fun i h => by
    rw [List.getD_eq_getElem?_getD, List.getElem?_eq_getElem h]
    exact upTo_spec hg (List.getElem?_eq_getElem h)
  rcases Nat.lt_trichotomy r (upTo l n) with h | h | h
  · have a := (key r (by omega)).2 h
    have b := of_decide_eq_true (h2 r (by omega) (by omega))
    omega
  · exact h
  · have a := key (upTo l n) (by omega)
    have b := of_decide_eq_false (h1 (upTo l n) h)
    omega

theorem upTo_calls (l : List Ver) (A : Option Addr) (n cap : Nat) (at_ : Int) (w : World) (hl : Sl tVer w (fun _ => True) (.slice A n cap) l) (hg : good l = true) (hn : n ≤ 4611686018427387904) :
    Calls Try.prog 63 #[.slice A n cap, .int .i64 at_] w fun e w' => e = .returned (.int .i64 (upTo l at_ : Nat)) ∧ Below w.heap.size w w' := by
  obtain ⟨hln, hcap, hm⟩ := hl.length
  have hb1 : Below w.heap.size w ((w.alloc (.cells #[.slice A n cap] 86)).alloc (.cells #[.int .i64 at_] 3)) := ((Below.refl _ _).alloc (Nat.le_refl _) _).alloc (by simp) _
  have H := Lib.hid (hl.below hb1)
  have HB := Lib.hid hb1
  have HG := Lib.hid hg
  clear hl hg hb1
  go_enter Try.func63, Try.ntmps63
  go_wp2_with fail
  refine (search_calls n 72 _ (fun i => decide (at_ < (l.getD i Ver.zero).at_)) _ hn (fun _ _ => by rfl) ?_ ?_).mono ?_
  · intro i W hi hW
    obtain ⟨x, hx⟩ := some_at (show i < l.length by omega)
    have := after_calls l A n cap at_ w.heap.size (w.heap.size + 1) i x W (H.out.below hW) ?_ ?_ hx
    · rw [show l.getD i Ver.zero = x by rw [List.getD_eq_getElem?_getD, hx]; rfl]
      refine this.mono fun e W' h => ⟨h.1, h.2.mono ?_⟩
      have := hW.size
      exact this
    · rw [(bcell hW).1 _ _ (by simp; omega)]
      simp [go_sem]
    · rw [(bcell hW).1 _ _ (by simp)]
      simp [go_sem]
  · intro i j hij hj h
    obtain ⟨y, hy⟩ := some_at (show j < l.length by omega)
    obtain ⟨x, hx⟩ := some_at (show i < l.length by omega)
    simp only [List.getD_eq_getElem?_getD, hx, hy, Option.getD_some, decide_eq_true_eq] at h ⊢
    exact upTo_mono HG.out hij hx hy h
  · rintro e w' ⟨r, rfl, hr, h1, h2, hb⟩
    have hr' := Lib.hid (upTo_first HG.out (by omega) h1 (by rw [hln]; exact h2))
    clear h1 h2
    go_wp2
    go_ret
    exact ⟨ret_int (by rw [hr'.out]), HB.out.trans (hb.mono (by simp; omega))⟩
end Go.Proofs.Ytidfogcilegloaa
namespace Go.Proofs.Ytidfogcilegloaa
open Go.RowKit

theorem info68 : (Try.prog.info? 93).map (fun i => (i.zero, i.size, i.bytes)) = some (some (.agg #[.int .i64 0, .string ⟨#[]⟩, .bool false]), 3, 32) := by kernel_rfl
theorem last_calls (l : List Ver) (A : Option Addr) (n cap : Nat) (w : World) (hl : Sl tVer w (fun _ => True) (.slice A n cap) l) :
    Calls Try.prog 60 #[.slice A n cap] w fun e w' => e = .returned (.int .i64 (lastOf l)) ∧ Below w.heap.size w w' := by
  obtain ⟨hln, hcap, hm⟩ := hl.length
  by_cases h0 : n = 0
  · subst h0
    obtain rfl := List.eq_nil_of_length_eq_zero hln
    go_enter Try.func60, Try.ntmps60
    go_wp2
    go_ret
    exact ⟨rfl, Below.refl _ _⟩
  · have h0' : ((n : Int) == 0) = false := by simp; omega
    obtain ⟨x, hx⟩ := some_at (show n - 1 < l.length by omega)
    obtain ⟨b, off, rfl, hbl, c0, c1, c2⟩ := sl_ver hl hx
    have H := Lib.hid hl
    clear hl
    cases hg : good l
    · have HG := Lib.hid hg
      go_enter Try.func60, Try.ntmps60
      go_wp2_with fail
      refine (good_calls l _ n cap _ H.out).mono ?_
      rw [hg]
      rintro e w' ⟨rfl, hb⟩
      clear hg
      go_wp2
      go_ret
      exact ⟨ret_int (by simp [lastOf, HG.out]), hb⟩
    · have HG := Lib.hid hg
      have HX := Lib.hid hx
      go_enter Try.func60, Try.ntmps60
      go_wp2_with fail
      refine (good_calls l _ n cap _ H.out).mono ?_
      rw [hg]
      rintro e w' ⟨rfl, hb⟩
      obtain ⟨hc, -⟩ := bcell hb
      clear hg hx
      go_wp2
      go_ret
      exact ⟨ret_int (by rw [lastOf, HG.out, if_pos rfl, List.getLast?_eq_getElem?, hln, HX.out]; rfl), hb⟩
end Go.Proofs.Ytidfogcilegloaa
namespace Go.Proofs.Ytidfogcilegloaa
open Go.RowKit

/-- What Get tells. -/
def getV (o : Option Ver) : Value := .tuple #[.agg (o.getD Ver.zero).enc.toArray, .bool o.isSome]

theorem get_calls (l : List Ver) (A : Option Addr) (n cap : Nat) (at_ : Int) (w : World) (hl : Sl tVer w (fun _ => True) (.slice A n cap) l) (hn : n ≤ 4611686018427387904) :
    Calls Try.prog 44 #[.slice A n cap, .int .i64 at_] w fun e w' => e = .returned (getV (get l at_)) ∧ Below w.heap.size w w' := by
  obtain ⟨hln, hcap, hm⟩ := hl.length
  have H := Lib.hid hl
  clear hl
  cases hg : good l
  · have HG := Lib.hid hg
    go_enter Try.func44, Try.ntmps44
    go_wp2_with fail
    have hb1 : Below w.heap.size w (w.alloc (.cells #[.int .i64 0, .string ⟨#[]⟩, .bool false] 93)) := (Below.refl _ _).alloc (Nat.le_refl _) _
    refine (good_calls l _ n cap _ (H.out.below hb1)).mono ?_
    rw [hg]
    rintro e w' ⟨rfl, hb⟩
    obtain ⟨hc, hf⟩ := bcell hb
    clear hg
    go_wp2
    have hz' := hb.size
    refine bodyPost_ret (v := getV none) ?_ rfl ⟨by rw [get, HG.out]; rfl, ?_⟩
    · simp [results, Try.results44, go_sem, hc, getV, Ver.enc, Ver.zero]
    · exact (((hb1.trans (hb.mono (by simp))).setCell (Nat.le_refl _) _).setCell (Nat.le_refl _) _).setCell (Nat.le_refl _) _
  · have HG := Lib.hid hg
    have hu := upTo_le l at_
    rw [hln] at hu
    have hb1 : Below w.heap.size w (w.alloc (.cells #[.int .i64 0, .string ⟨#[]⟩, .bool false] 93)) := (Below.refl _ _).alloc (Nat.le_refl _) _
    have hse := Lib.hid (seen_eq l at_)
    by_cases h0 : upTo l at_ = 0
    · have hfin : Hid (get l at_ = none) := by unfold get; rw [HG.out, hse.out, if_pos h0]; rfl
      have h0' := Lib.hid h0
      clear h0 hse
      go_enter Try.func44, Try.ntmps44
      go_wp2_with fail
      refine (good_calls l _ n cap _ (H.out.below hb1)).mono ?_
      rw [hg]
      rintro e w' ⟨rfl, hb⟩
      clear hg
      go_wp2_with fail
      have hb2 := hb1.trans (hb.mono (by simp))
      refine (upTo_calls l A n cap at_ _ (H.out.below hb2) HG.out hn).mono ?_
      rintro e w'' ⟨rfl, hb3⟩
      rw [h0'.out]
      have hz' := hb.size
      have hb4 := hb.trans (hb3.mono hb.size)
      obtain ⟨hc, hf⟩ := bcell hb4
      clear hb hb3
      have hz2 := hb4.size
      go_wp2
      refine bodyPost_ret (v := getV none) ?_ rfl ⟨by rw [hfin.out], ?_⟩
      · simp [results, Try.results44, go_sem, hc, getV, Ver.enc, Ver.zero]
      · exact (((hb1.trans (hb4.mono (by simp))).setCell (Nat.le_refl _) _).setCell (Nat.le_refl _) _).setCell (Nat.le_refl _) _
    · obtain ⟨x, hx⟩ := some_at (show upTo l at_ - 1 < l.length by omega)
      have hfin : Hid (get l at_ = if x.dead then none else some x) := by unfold get; rw [HG.out, hse.out, if_neg h0, hx]; rfl
      obtain ⟨b, off, rfl, hbl, c0, c1, c2⟩ := sl_ver H.out hx
      clear hse hx
      have HU : Hid (∀ W : World, Sl tVer W (fun _ => True) (.slice (some ⟨b, off, none⟩) n cap) l → Calls Try.prog 63 #[.slice (some ⟨b, off, none⟩) n cap, .int .i64 at_] W fun e w' => e = .returned (.int .i64 (upTo l at_ : Nat)) ∧ Below W.heap.size W w') :=
        fun W hW => upTo_calls l _ n cap at_ W hW HG.out hn
      generalize upTo l at_ = u at *
      have h0' : ((u : Int) == 0) = false := by simp; omega
      cases hd : x.dead
      · rw [hd] at c2 hfin
        go_enter Try.func44, Try.ntmps44
        go_wp2_with fail
        refine (good_calls l _ n cap _ (H.out.below hb1)).mono ?_
        rw [hg]
        rintro e w' ⟨rfl, hb⟩
        clear hg
        go_wp2_with fail
        have hb2 := hb1.trans (hb.mono (by simp))
        refine (HU.out _ (H.out.below hb2)).mono ?_
        rintro e w'' ⟨rfl, hb3⟩
        have hz' := hb.size
        have hb4 := hb.trans (hb3.mono hb.size)
        obtain ⟨hc, hf⟩ := bcell hb4
        clear hb hb3
        have hz2 := hb4.size
        have hd' := Lib.hid hd
        clear hd
        go_wp2
        refine bodyPost_ret (v := getV (some x)) ?_ rfl ⟨by rw [hfin.out]; rfl, ?_⟩
        · simp [results, Try.results44, go_sem, hc, getV, Ver.enc, hd'.out]
        · exact (((hb1.trans (hb4.mono (by simp))).setCell (Nat.le_refl _) _).setCell (Nat.le_refl _) _).setCell (Nat.le_refl _) _
      · rw [hd] at c2 hfin
        go_enter Try.func44, Try.ntmps44
        go_wp2_with fail
        refine (good_calls l _ n cap _ (H.out.below hb1)).mono ?_
        rw [hg]
        rintro e w' ⟨rfl, hb⟩
        clear hg
        go_wp2_with fail
        have hb2 := hb1.trans (hb.mono (by simp))
        refine (HU.out _ (H.out.below hb2)).mono ?_
        rintro e w'' ⟨rfl, hb3⟩
        have hz' := hb.size
        have hb4 := hb.trans (hb3.mono hb.size)
        obtain ⟨hc, hf⟩ := bcell hb4
        clear hb hb3
        have hz2 := hb4.size
        have hd' := Lib.hid hd
        clear hd
        go_wp2
        refine bodyPost_ret (v := getV none) ?_ rfl ⟨by rw [hfin.out]; rfl, ?_⟩
        · simp [results, Try.results44, go_sem, hc, getV, Ver.enc, Ver.zero]
        · exact (((hb1.trans (hb4.mono (by simp))).setCell (Nat.le_refl _) _).setCell (Nat.le_refl _) _).setCell (Nat.le_refl _) _

/-- One round of Since. -/
def cnt (l : List Ver) (n : Int) : Nat := l.countP fun v => decide (n < v.at_)
theorem since_cnt {l : List Ver} (hg : good l = true) (n : Int) : since l n = cnt l n := by
  unfold since
  rw [if_pos hg]
  have : ∀ (l : List Ver) (last : Int), goodFrom last l = true → l.length - upTo l n = cnt l n := by
    intro l
    induction l with
    | nil => intro _ _; rfl
    | cons x l ih =>
      intro last h
      have h0 := h
      simp only [goodFrom, Bool.and_eq_true, decide_eq_true_eq] at h
      have := ih _ h.2
      have hu := upTo_le l n
      unfold upTo cnt at *
      rw [List.takeWhile_cons, List.countP_cons]
      by_cases hx : x.at_ ≤ n
      · have hx' : ¬ n < x.at_ := by omega
        simp only [hx, decide_true, if_true, List.length_cons, hx', decide_false, Bool.false_eq_true, if_false]
        omega
      · have hx' : n < x.at_ := by omega
        simp only [hx, decide_false, Bool.false_eq_true, if_false, List.length_nil, List.length_cons, hx', decide_true, if_true]
        have hall : List.countP (fun v : Ver => decide (n < v.at_)) l = l.length := by
          rw [List.countP_eq_length]
          intro v hv
          have := goodFrom_lt h.2 v hv
          simp; omega
        omega
  exact this l 0 hg

end Go.Proofs.Ytidfogcilegloaa
namespace Go.Proofs.Ytidfogcilegloaa
open Go.RowKit

end Go.Proofs.Ytidfogcilegloaa
namespace Go.Proofs.Ytidfogcilegloaa
open Go.RowKit

theorem filter_takeWhile {l : List Ver} {last : Int} (hg : goodFrom last l = true) (n : Int) : l.filter (fun v => decide (v.at_ ≤ n)) = l.takeWhile (fun v => decide (v.at_ ≤ n)) := by
  induction l generalizing last with
  | nil => rfl
  | cons x l ih =>
    have h := hg
    simp only [goodFrom, Bool.and_eq_true, decide_eq_true_eq] at h
    rw [List.filter_cons, List.takeWhile_cons]
    by_cases hx : x.at_ ≤ n
    · simp only [hx, decide_true, if_true]
      rw [ih h.2]
    · simp only [hx, decide_false, Bool.false_eq_true, if_false]
      rw [List.filter_eq_nil_iff]
      intro v hv
      have := goodFrom_lt h.2 v hv
      simp; omega
/-- What the document's loop has found in the first k. -/
def found (l : List Ver) (n : Int) : Option Ver := (l.filter fun v => decide (v.at_ ≤ n)).getLast?
theorem found_yes {l : List Ver} {n : Int} {k : Nat} {x : Ver} (hx : l[k]? = some x) (h : x.at_ ≤ n) : found (l.take (k + 1)) n = some x := by
  unfold found
  rw [List.take_add_one, hx, List.filter_append]
  simp [h]
theorem found_no {l : List Ver} {n : Int} {k : Nat} {x : Ver} (hx : l[k]? = some x) (h : ¬ x.at_ ≤ n) : found (l.take (k + 1)) n = found (l.take k) n := by
  unfold found
  rw [List.take_add_one, hx, List.filter_append]
  simp [h]
theorem found_all {l : List Ver} {n : Int} {k : Nat} (hg : good l = true) (hk : l.length ≤ k) : found (l.take k) n = seen l n := by
  unfold found seen
  rw [List.take_of_length_le hk, filter_takeWhile hg]

end Go.Proofs.Ytidfogcilegloaa
namespace Go.Proofs.Ytidfogcilegloaa
open Go.RowKit

theorem cut_filter {l : List Ver} (hg : good l = true) (n : Int) : cut l n = l.filter fun v => decide (v.at_ ≤ n) := by
  rw [cut, if_pos hg, filter_takeWhile hg]
  exact (List.prefix_iff_eq_take.1 (List.takeWhile_prefix _)).symm

theorem filter_yes {l : List Ver} {p : Ver → Bool} {k : Nat} {x : Ver} (hx : l[k]? = some x) (h : p x = true) : (l.take (k + 1)).filter p = (l.take k).filter p ++ [x] := by
  rw [List.take_add_one, hx, List.filter_append]; simp [h]
theorem filter_no {l : List Ver} {p : Ver → Bool} {k : Nat} {x : Ver} (hx : l[k]? = some x) (h : p x = false) : (l.take (k + 1)).filter p = (l.take k).filter p := by
  rw [List.take_add_one, hx, List.filter_append]; simp [h]
theorem filter_len (l : List Ver) (p : Ver → Bool) (k : Nat) : ((l.take k).filter p).length ≤ k := Nat.le_trans (List.length_filter_le _ _) (List.length_take_le _ _)

theorem put_no {l : List Ver} {v : Ver} (h : canPut l v = false) : put l v = l := by rw [put, h]; rfl

set_option maxHeartbeats 1000000 in
set_option maxRecDepth 100000 in
theorem put_calls (l : List Ver) (v : Ver) (A : Option Addr) (n cap : Nat) (w : World) (hl : Sl tVer w (fun _ => True) (.slice A n cap) l) (hn : n ≤ 1000000) :
    Calls Try.prog 41 #[.slice A n cap, .agg #[.int .i64 v.at_, .string v.val, .bool v.dead]] w fun e w' =>
      ∃ u, e = .returned (.tuple #[u, .bool (canPut l v)]) ∧ Sl tVer w' (fun b => canPut l v = true → w.heap.size ≤ b) u (put l v) ∧ Below w.heap.size w w' := by
  obtain ⟨hln, hcap, hm⟩ := hl.length
  have H := Lib.hid hl
  clear hl
  have hb1 : Below w.heap.size w (w.alloc (.cells #[.int .i64 v.at_, .string v.val, .bool v.dead] 93)) := (Below.refl _ _).alloc (Nat.le_refl _) _
  have HB := Lib.hid hb1
  clear hb1
  have hL : Hid (∀ W, Below w.heap.size w W → Calls Try.prog 60 #[.slice A n cap] W fun e w' => e = .returned (.int .i64 (lastOf l)) ∧ Below W.heap.size W w') := fun W hW => last_calls l A n cap _ (H.out.below hW)
  have hR : Hid (∀ W, Calls Try.prog 61 #[.agg #[.int .i64 v.at_, .string v.val, .bool v.dead]] W fun e w' => e = .returned (.bool v.right) ∧ Below W.heap.size W w') := fun W => right_calls v W
  cases hg : good l
  · have HG : Hid (canPut l v = false) := by rw [canPut, hg]; rfl
    have hG : Hid (∀ W, Below w.heap.size w W → Calls Try.prog 59 #[.slice A n cap] W fun e w' => e = .returned (.bool false) ∧ Below W.heap.size W w') := fun W hW => by
      rw [← hg]; exact good_calls l A n cap _ (H.out.below hW)
    clear hg
    go_enter Try.func41, Try.ntmps41
    go_wp2_with fail
    refine wp_region_later (by kernel_rfl) (by kernel_rfl) ?_
    repeat (go_big_quiet_step ((go_at_call 59; exact calls_later (hG.out _ (later_from HB.out (by simp) _)))))
    refine wpQuiet_nil ?_
    rintro _ ⟨e, rfl⟩
    have hb := later_from HB.out (by simp) e
    generalize later _ e = w1 at *
    go_wp2
    go_ret2
    exact ⟨_, by rw [HG.out]; rfl, by rw [HG.out, put_no HG.out]; exact (H.out.below hb).mono (fun _ _ h => by cases h), hb⟩
  · have hG : Hid (∀ W, Below w.heap.size w W → Calls Try.prog 59 #[.slice A n cap] W fun e w' => e = .returned (.bool true) ∧ Below W.heap.size W w') := fun W hW => by
      rw [← hg]; exact good_calls l A n cap _ (H.out.below hW)
    have hcp : canPut l v = (decide (lastOf l < v.at_) && v.right) := by rw [canPut, hg]; simp
    have HC := Lib.hid hcp
    clear hg hcp
    generalize lastOf l = la at *
    by_cases hla : la < v.at_
    · have hd : decide (v.at_ ≤ la) = false := decide_eq_false (by omega)
      cases hr : v.right
      · have HG : Hid (canPut l v = false) := by rw [HC.out, hr]; show _ = _; simp
        rw [hr] at hR
        clear hr
        go_enter Try.func41, Try.ntmps41
        go_wp2_with fail
        refine wp_region_later (by kernel_rfl) (by kernel_rfl) ?_
        repeat (go_big_quiet_step (first | (go_at_call 59; exact calls_later (hG.out _ (later_from HB.out (by simp) _))) | (go_at_call 60; exact calls_later (hL.out _ (later_from HB.out (by simp) _))) | (go_at_call 61; exact calls_later (hR.out _))))
        refine wpQuiet_nil ?_
        rintro _ ⟨e, rfl⟩
        have hb := later_from HB.out (by simp) e
        generalize later _ e = w1 at *
        go_wp2
        go_ret2
        exact ⟨_, by rw [HG.out]; rfl, by rw [HG.out, put_no HG.out]; exact (H.out.below hb).mono (fun _ _ h => by cases h), hb⟩
      · have HG : Hid (canPut l v = true) := by rw [HC.out, hr]; show _ = _; simp [hla]
        rw [hr] at hR
        clear hr
        go_enter Try.func41, Try.ntmps41
        go_wp2_with fail
        refine wp_region_later (by kernel_rfl) (by kernel_rfl) ?_
        repeat (go_big_quiet_step (first | (go_at_call 59; exact calls_later (hG.out _ (later_from HB.out (by simp) _))) | (go_at_call 60; exact calls_later (hL.out _ (later_from HB.out (by simp) _))) | (go_at_call 61; exact calls_later (hR.out _))))
        refine wpQuiet_nil ?_
        rintro _ ⟨e, rfl⟩
        have hb := later_from HB.out (by simp) e
        obtain ⟨hc, -⟩ := bcell (later_below e)
        have hz := (later_below e).size
        generalize later _ e = w1 at *
        have hz1 : w.heap.size < w1.heap.size := by simp at hz; exact hz
        have c0 : w1.cell? ⟨w.heap.size, 0, none⟩ = some (.int .i64 v.at_) := by rw [hc _ _ (by simp)]; simp [go_sem]
        have c1 : w1.cell? ⟨w.heap.size, 1, none⟩ = some (.string v.val) := by rw [hc _ _ (by simp)]; simp [go_sem]
        have c2 : w1.cell? ⟨w.heap.size, 2, none⟩ = some (.bool v.dead) := by rw [hc _ _ (by simp)]; simp [go_sem]
        clear hc hz
        have hmk : ∀ W : World, (Instr.makeSlice 86 (.int .i64 (n : Int)) (.int .i64 ((n : Int) + 1))).run Try.prog W = .ok (.slice (some ⟨W.heap.size, 0, none⟩) n (n + 1)) (W.alloc (.cells (madeCells #[.int .i64 0, .string ⟨#[]⟩, .bool false] ((n + 1) * 3)) 93)) := by
          intro W
          obtain ⟨i0, hi, hzz⟩ := Option.map_eq_some_iff.1 info68
          simp only [Prod.mk.injEq] at hzz
          obtain ⟨q0, q1, q2⟩ := hzz
          have := run_make_rowN (P := Try.prog) 86 93 i0 _ Try.underlying86 hi q0 .i64 .i64 n (n + 1) (by omega) (by rw [q2]; omega) (by omega) W
          rw [q1] at this
          have e1 : ((n : Int) + 1) = ((n + 1 : Nat) : Int) := by omega
          rw [e1]
          exact this
        have HM : Hid (Own tVer (w1.alloc (.cells (madeCells #[.int .i64 0, .string ⟨#[]⟩, .bool false] ((n + 1) * 3)) 93)) w.heap.size 93 (fun _ => False) (.slice (some ⟨w1.heap.size, 0, none⟩) n (n + 1)) (List.replicate n Ver.zero)) :=
          Own.made (t := tVer) (x := Ver.zero) (z := .agg #[.int .i64 0, .string ⟨#[]⟩, .bool false]) (fun _ => rfl) 93 (by omega) (by omega) (by omega)
        have HS : Hid (∀ W, Below w.heap.size w W → SlX tVer W (fun b => False ∧ (Value.slice (some ⟨w1.heap.size, 0, none⟩) n (n + 1)).ownBlock ≠ some b) (.slice A n cap) l) := fun W hW => (H.out.below hW).xflat
        have hb2 := hb.alloc (by omega : w.heap.size ≤ w1.heap.size) (.cells (madeCells #[.int .i64 0, .string ⟨#[]⟩, .bool false] ((n + 1) * 3)) 93)
        go_wp2_with (first
          | (refine wpList_copySl (o := ⟨some 31, _, _, _, _, _⟩) (t := tVer) (ok := fun _ => False) (l := List.replicate n Ver.zero) (m := l) (w0 := w) w.heap.size rfl _ _ 86 86 93 rfl Try.underlying86 ?d1 ?d2 ?d3 HM.out (HS.out _ hb2) ?d4 hb2 ?_; (case d1 => exact (by kernel_rfl)); (case d2 => rfl); (case d3 => rfl); (case d4 => simp; omega); intro w2 hO2 hB2 hg2
             have e0 : w2.cell? ⟨w.heap.size, 0, none⟩ = some (.int .i64 v.at_) := hg2.cell (by rw [(bcell ((Below.refl w1.heap.size w1).alloc (Nat.le_refl _) _)).1 _ _ hz1]; exact c0) (by simp [Value.ownBlock]; omega)
             have e1 : w2.cell? ⟨w.heap.size, 1, none⟩ = some (.string v.val) := hg2.cell (by rw [(bcell ((Below.refl w1.heap.size w1).alloc (Nat.le_refl _) _)).1 _ _ hz1]; exact c1) (by simp [Value.ownBlock]; omega)
             have e2 : w2.cell? ⟨w.heap.size, 2, none⟩ = some (.bool v.dead) := hg2.cell (by rw [(bcell ((Below.refl w1.heap.size w1).alloc (Nat.le_refl _) _)).1 _ _ hz1]; exact c2) (by simp [Value.ownBlock]; omega)
             have hO3 := Lib.hid hO2
             clear hO2)
          | (refine wpList_app1 (o := ⟨some 35, _, _, _, _, _⟩) (t := tVer) (w0 := w) (cs := v.enc) (y := v) w.heap.size rfl _ _ 86 93 _ 32 rfl Try.underlying86 info68 rfl (by decide) (by decide) rfl rfl rfl hO3.out rfl hB2 ?c2 ?c3 ?_; (case c2 => have := hB2.size; omega); (case c3 => rw [hln]; omega); intro v1 w3 hO4 hB3 _ _))
        go_ret2
        exact ⟨_, by rw [HG.out]; rfl, by rw [put, HG.out]; exact hO4.sl.mono (fun b hb _ => hb.elim False.elim And.left), hB3⟩
    · have HG : Hid (canPut l v = false) := by rw [HC.out]; show _ = _; simp; omega
      have hd : decide (v.at_ ≤ la) = true := decide_eq_true (by omega)
      go_enter Try.func41, Try.ntmps41
      go_wp2_with fail
      refine wp_region_later (by kernel_rfl) (by kernel_rfl) ?_
      repeat (go_big_quiet_step (first | (go_at_call 59; exact calls_later (hG.out _ (later_from HB.out (by simp) _))) | (go_at_call 60; exact calls_later (hL.out _ (later_from HB.out (by simp) _))) | (go_at_call 61; exact calls_later (hR.out _))))
      refine wpQuiet_nil ?_
      rintro _ ⟨e, rfl⟩
      have hb := later_from HB.out (by simp) e
      generalize later _ e = w1 at *
      go_wp2
      go_ret2
      exact ⟨_, by rw [HG.out]; rfl, by rw [HG.out, put_no HG.out]; exact (H.out.below hb).mono (fun _ _ h => by cases h), hb⟩
end Go.Proofs.Ytidfogcilegloaa
namespace Go.Proofs.Ytidfogcilegloaa
open Go.RowKit

end Go.Proofs.Ytidfogcilegloaa
/-! The store in memory; its small functions. -/
namespace Go.Proofs.Ytidfogcilegloaa
open Go.RowKit Go.Op

noncomputable abbrev KS : MKey Try.prog 9 ByteArray := strKey Try.underlying9
def none_ : Nat → Prop := fun _ => False
theorem max_of {k : ByteArray} (h : k.size ≤ 140737488351232) : k.size ≤ maxLen := by unfold maxLen; omega
theorem grown_of {w w' : World} (hb : Below w.heap.size w w') (row : Option Nat) : w.grownBy w' row := ⟨hb.os, hb.tape, hb.output, hb.size, fun k hk _ => hb.block k hk⟩

/-- The map's side of entries. -/
structure Ch (w : World) (X : List Nat) (V : List (ByteArray × Value)) (E : List Ent) : Prop where
  keys : (V.map (·.1)).Perm (E.map (·.key))
  chains : ∀ e ∈ E, ∃ A n c, look V e.key = some (.slice A n c) ∧ Sl tVer w (· ∉ X) (.slice A n c) e.c
/-- A store: its pointer's block, its map's, its keys; X: the blocks that it may write (and others). -/
structure Stm (w : World) (pb mb : Nat) (kv : Value) (X : List Nat) (S : Sto) : Prop where
  blk : Blk w pb #[.map (some mb), kv, .int .i64 S.last, .int .i64 S.floor] 73
  keys : Own Ty.str w 0 9 none_ kv (S.ents.map (·.key))
  map : ∃ V, Mp KS w mb V ∧ Ch w X V S.ents
  ok : S.Ok
  few : S.ents.length ≤ 100000
  last : S.last ≤ 1000000
  inP : pb ∈ X
  inM : mb ∈ X
  inK : ∀ b, kv.ownBlock = some b → b ∈ X
  lt : ∀ b ∈ X, b < w.heap.size
  nP : kv.ownBlock ≠ some pb
  nM : kv.ownBlock ≠ some mb
section
variable {w w' : World} {pb mb : Nat} {kv : Value} {X : List Nat} {S : Sto} {V : List (ByteArray × Value)} {E : List Ent}
theorem Ch.step (h : Ch w X V E) (hb : ∀ b, b < w.heap.size → b ∉ X → w'.heap[b]? = w.heap[b]?) : Ch w' X V E :=
  ⟨h.keys, fun e he => by
    obtain ⟨A, n, c, h1, h2⟩ := h.chains e he
    exact ⟨A, n, c, h1, (h2.inb.step fun b hq => hb b hq.2 hq.1).mono fun b hq => hq.1⟩⟩
theorem Stm.ne (h : Stm w pb mb kv X S) : pb ≠ mb := by
  rintro rfl
  obtain ⟨V, ⟨D, ⟨es, cl, h1, _⟩, _⟩, _⟩ := h.map
  have h2 := h.blk
  unfold Blk at h2
  rw [h1] at h2
  cases h2
/-- What turns none of a store's blocks keeps it. -/
theorem Stm.step (h : Stm w pb mb kv X S) (hs : w.heap.size ≤ w'.heap.size) (h1 : w'.heap[pb]? = w.heap[pb]?) (h2 : w'.heap[mb]? = w.heap[mb]?) (h3 : ∀ b, kv.ownBlock = some b → w'.heap[b]? = w.heap[b]?)
    (h4 : ∀ b, b < w.heap.size → b ∉ X → w'.heap[b]? = w.heap[b]?) : Stm w' pb mb kv X S := by
  obtain ⟨V, hV, hC⟩ := h.map
  refine ⟨h1.trans h.blk, ?_, ⟨V, hV.same h2, hC.step h4⟩, h.ok, h.few, h.last, h.inP, h.inM, h.inK, fun b hb => Nat.lt_of_lt_of_le (h.lt b hb) hs, h.nP, h.nM⟩
  obtain ⟨cs, ⟨e1, hr⟩, hc⟩ := h.keys
  refine ⟨cs, ⟨e1, ?_⟩, hc.step fun b hb => hb.1.elim⟩
  rcases hr with hr | ⟨g, cap, rest, e2, hb, hB, r⟩
  · exact .inl hr
  · subst e2
    exact .inr ⟨g, cap, rest, rfl, hb, (h3 g rfl).trans hB, r⟩
theorem Stm.below (h : Stm w pb mb kv X S) (hb : Below w.heap.size w w') : Stm w' pb mb kv X S :=
  h.step hb.size (hb.block _ (h.lt _ h.inP)) (hb.block _ (h.lt _ h.inM)) (fun b e => hb.block _ (h.lt _ (h.inK b e))) fun b hl _ => hb.block b hl
theorem Stm.cells (h : Stm w pb mb kv X S) : w.cell? ⟨pb, 0, none⟩ = some (.map (some mb)) ∧ w.cell? ⟨pb, 1, none⟩ = some kv ∧ w.cell? ⟨pb, 2, none⟩ = some (.int .i64 S.last) ∧ w.cell? ⟨pb, 3, none⟩ = some (.int .i64 S.floor) :=
  ⟨h.blk.cell 0, h.blk.cell 1, h.blk.cell 2, h.blk.cell 3⟩
theorem look_ch (_hV : Mp KS w mb V) (hC : Ch w X V E) (k : ByteArray) : (look V k).isSome = hasK E k := by
  cases hl : look V k with
  | none =>
    rw [look_none] at hl
    cases hh : hasK E k with
    | false => rfl
    | true =>
      rw [hasK, List.any_eq_true] at hh
      obtain ⟨e, he, hk⟩ := hh
      rw [beq_key, decide_eq_true_eq] at hk
      subst hk
      have : e.key ∈ V.map (·.1) := hC.keys.mem_iff.2 (List.mem_map.2 ⟨e, he, rfl⟩)
      obtain ⟨p, hp, hq⟩ := List.mem_map.1 this
      exact absurd hq (hl p hp)
  | some v =>
    have h1 := look_mem hl
    have : k ∈ E.map (·.key) := hC.keys.mem_iff.1 (List.mem_map.2 ⟨_, h1, rfl⟩)
    obtain ⟨e, he, rfl⟩ := List.mem_map.1 this
    symm
    show hasK E e.key = true
    rw [hasK, List.any_eq_true]
    exact ⟨e, he, by rw [beq_key]; simp⟩
/-- What is looked up: the chain of a key. -/
theorem look_at (hr : Rising E) (hV : Mp KS w mb V) (hC : Ch w X V E) (k : ByteArray) : ∃ A n c, (look V k).getD (.slice none 0 0) = .slice A n c ∧ Sl tVer w (· ∉ X) (.slice A n c) (chainOf E k) := by
  have hs := look_ch hV hC k
  cases hf : findK E k with
  | none =>
    rw [hasK_find, hf] at hs
    have : look V k = none := by cases hl : look V k with
      | none => rfl
      | some v => rw [hl] at hs; cases hs
    rw [this, chainOf_none hf]
    exact ⟨none, 0, 0, rfl, Sl.nil _ _ _⟩
  | some e =>
    obtain ⟨he, rfl⟩ := findK_some hf
    obtain ⟨A, n, c, h1, h2⟩ := hC.chains e he
    rw [h1, chainOf_mem hr he]
    exact ⟨A, n, c, rfl, h2⟩
end
theorem zero61 (w : World) : (zeroValue 86).run Try.prog w = .ok (.slice none 0 0) w := by kernel_rfl
theorem zero55 (w : World) : (zeroValue 70).run Try.prog w = .ok (.map none) w := by kernel_rfl
theorem chain_len {m : Int} {E : List Ent} (hm0 : 0 ≤ m) (hm : m ≤ 1000000) (h : ∀ e ∈ E, ChOk m e) (k : ByteArray) : (chainOf E k).length ≤ 1000000 := by
  unfold chainOf
  cases hf : findK E k with
  | none => simp
  | some e => have := (h e (findK_some hf).1).len hm0; simp; omega
theorem Stm.look {w : World} {pb mb : Nat} {kv : Value} {X : List Nat} {S : Sto} (h : Stm w pb mb kv X S) (k : ByteArray) (hk : k.size ≤ maxLen) :
    ∃ A n c, n ≤ 1000000 ∧ (Instr.lookup 70 (.map (some mb)) (.string k) false).run Try.prog w = .ok (.slice A n c) w ∧
      (Instr.lookup 70 (.map (some mb)) (.string k) true).run Try.prog w = .ok (.tuple #[.slice A n c, .bool (hasK S.ents k)]) w ∧ Sl tVer w (· ∉ X) (.slice A n c) (chainOf S.ents k) := by
  obtain ⟨V, hV, hC⟩ := h.map
  obtain ⟨A, n, c, h1, h2⟩ := look_at h.ok.rising hV hC k
  refine ⟨A, n, c, ?_, ?_, ?_, h2⟩
  · have := chain_len (by have := h.ok.fl; have := h.ok.le; omega) h.last h.ok.chains k
    have := h2.length.1
    omega
  · have := hV.look1 Try.underlying70 (zero61 _) hk
    rw [h1] at this
    exact this
  · have := hV.look2 Try.underlying70 (zero61 _) hk
    rw [h1, look_ch hV hC] at this
    exact this

theorem snew_calls (w : World) : Calls Try.prog 6 #[] w fun e w' => e = .returned (.pointer (some ⟨w.heap.size + 1, 0, none⟩)) ∧ Stm w' (w.heap.size + 1) w.heap.size (.slice none 0 0) [w.heap.size, w.heap.size + 1] Sto.new ∧ Below w.heap.size w w' := by
  have hmm := @run_makeMap Try.prog
  have hM : Stm ((w.alloc (.map #[] 0)).alloc (.cells #[.map (some w.heap.size), .slice none 0 0, .int .i64 0, .int .i64 0] 73)) (w.heap.size + 1) w.heap.size (.slice none 0 0) [w.heap.size, w.heap.size + 1] Sto.new :=
    ⟨by have := Blk.new (w.alloc (.map #[] 0)) #[.map (some w.heap.size), .slice none 0 0, .int .i64 0, .int .i64 0] 73; rw [World.size_alloc] at this; exact this, Own.nil _ _ _ _ _, ⟨[], (Mp.made KS w).below ((Below.refl _ _).alloc (by simp) _), .refl _, fun e he => by cases he⟩,
      Sto.Ok.new, by simp [Sto.new], by simp [Sto.new], by simp, by simp, (by intro b h; cases h), (by intro b hb; simp at hb; simp; omega), (by simp [Value.ownBlock]), (by simp [Value.ownBlock])⟩
  have HM := Lib.hid hM
  have HB := Lib.hid (((Below.refl w.heap.size w).alloc (Nat.le_refl _) (.map #[] 0)).alloc (by simp) (.cells #[.map (some w.heap.size), .slice none 0 0, .int .i64 0, .int .i64 0] 73))
  clear hM
  go_enter Try.func6, Try.ntmps6
  go_wp2
  go_ret
  exact ⟨rfl, HM.out, HB.out⟩

set_option maxRecDepth 100000 in
theorem made_calls (pb mb : Nat) (a b c : Value) (w : World) (hb : Blk w pb #[.map (some mb), a, b, c] 73) : Calls Try.prog 37 #[.pointer (some ⟨pb, 0, none⟩)] w fun e w' => e = .returned (.bool true) ∧ w = w' := by
  have c0 : w.cell? ⟨pb, 0, none⟩ = some (.map (some mb)) := hb.cell 0
  clear hb
  have hx : ∀ W, (binOp .neq 70 (.map (some mb)) (.map none)).run Try.prog W = .ok (.bool true) W := fun _ => by kernel_rfl
  go_enter Try.func37, Try.ntmps37
  go_wp2
  go_ret
  exact ⟨rfl, rfl⟩
theorem Stm.made {w : World} {pb mb : Nat} {kv : Value} {X : List Nat} {S : Sto} (h : Stm w pb mb kv X S) : Calls Try.prog 37 #[.pointer (some ⟨pb, 0, none⟩)] w fun e w' => e = .returned (.bool true) ∧ w = w' := made_calls pb mb _ _ _ w h.blk

theorem may_calls (pb mb : Nat) (kv : Value) (X : List Nat) (S : Sto) (n : Int) (w : World) (h : Stm w pb mb kv X S) :
    Calls Try.prog 42 #[.pointer (some ⟨pb, 0, none⟩), .int .i64 n] w fun e w' => e = .returned (.int .i64 (may S n)) ∧ w = w' := by
  obtain ⟨-, -, c2, c3⟩ := h.cells
  have HM := Lib.hid h.made
  clear h
  go_enter Try.func42, Try.ntmps42
  go_wp2_with fail
  refine HM.out.mono ?_
  rintro e w' ⟨rfl, rfl⟩
  by_cases h1 : n < S.floor
  · go_wp2
    go_ret
    exact ⟨ret_int (by unfold may; rw [if_pos (by omega)]), rfl⟩
  · by_cases h2 : S.last < n
    · go_wp2
      go_ret
      exact ⟨ret_int (by unfold may; rw [if_neg (by omega), if_pos (by omega)]), rfl⟩
    · go_wp2
      go_ret
      exact ⟨ret_int (by unfold may; rw [if_neg (by omega), if_neg (by omega)]), rfl⟩

theorem slast_calls (pb mb : Nat) (kv : Value) (X : List Nat) (S : Sto) (w : World) (h : Stm w pb mb kv X S) :
    Calls Try.prog 21 #[.pointer (some ⟨pb, 0, none⟩)] w fun e w' => e = .returned (.int .i64 S.last) ∧ w = w' := by
  obtain ⟨-, -, c2, c3⟩ := h.cells
  have HM := Lib.hid h.made
  clear h
  go_enter Try.func21, Try.ntmps21
  go_wp2_with fail
  refine HM.out.mono ?_
  rintro e w' ⟨rfl, rfl⟩
  go_wp2
  go_ret
  exact ⟨rfl, rfl⟩
theorem sget_calls (pb mb : Nat) (kv : Value) (X : List Nat) (S : Sto) (k : ByteArray) (n : Int) (w : World) (h : Stm w pb mb kv X S) (hk : k.size ≤ maxLen) :
    Calls Try.prog 24 #[.pointer (some ⟨pb, 0, none⟩), .string k, .int .i64 n] w fun e w' => e = .returned (.tuple #[.string (getS S k n).1, .int .i64 (getS S k n).2]) ∧ Below w.heap.size w w' := by
  obtain ⟨c0, -, -, -⟩ := h.cells
  obtain ⟨A, m, c, hm, hl, -, hs⟩ := h.look k hk
  have HM := Lib.hid (may_calls pb mb kv X S n w h)
  have HG := Lib.hid (get_calls (chainOf S.ents k) A m c n w (hs.mono fun _ _ => trivial) (by omega))
  unfold getS
  obtain ⟨q, hq⟩ : ∃ q, may S n = q := ⟨_, rfl⟩
  obtain ⟨o, ho⟩ : ∃ o, get (chainOf S.ents k) n = o := ⟨_, rfl⟩
  rw [ho] at HG ⊢
  rw [hq] at HM ⊢
  clear h hs hq ho
  go_enter Try.func24, Try.ntmps24
  go_wp2_with fail
  refine HM.out.mono ?_
  rintro e w' ⟨rfl, rfl⟩
  by_cases h0 : q = 0
  · subst h0
    go_wp2_with fail
    refine HG.out.mono ?_
    rintro e w' ⟨rfl, hb⟩
    have HB := Lib.hid hb
    clear hl c0 hb
    cases o with
    | none =>
      simp only [getV, Option.getD, Option.isSome, Ver.enc, Ver.zero]
      go_wp2
      refine bodyPost_ret (v := .tuple #[.string ⟨#[]⟩, .int .i64 8]) (by simp [results, Try.results24, go_sem]) rfl ⟨rfl, HB.out.alloc HB.out.size _⟩
    | some v =>
      simp only [getV, Option.getD, Option.isSome, Ver.enc]
      go_wp2
      refine bodyPost_ret (v := .tuple #[.string v.val, .int .i64 0]) (by simp [results, Try.results24, go_sem]) rfl ⟨rfl, HB.out.alloc HB.out.size _⟩
  · have h0' : (q != 0) = true := by simpa using h0
    have h0'' : (q == 0) = false := by simpa using h0
    clear hl c0
    have H0 := Lib.hid h0
    clear h0
    go_wp2
    refine bodyPost_ret (v := .tuple #[.string ⟨#[]⟩, .int .i64 q]) (by simp [results, Try.results24, go_sem]) rfl ⟨rfl, Below.refl _ _⟩
end Go.Proofs.Ytidfogcilegloaa
