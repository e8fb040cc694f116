import Derived.Test.YtnleldogmogkgaaW5
import Derived.Laws.StructEq
namespace Go.Proofs.Ytnleldogmogkgaa
open Go.RowKit

theorem filter_takeWhile {l : List Ver} {last : Int} (hg : goodFrom last l = true) (n : Int) : l.filter (fun v => decide (v.at_ ≤ n)) = l.takeWhile (fun v => decide (v.at_ ≤ n)) := by
  induction l generalizing last with
  | nil => rfl
  | cons x l ih =>
    have h := hg
    simp only [goodFrom, Bool.and_eq_true, decide_eq_true_eq] at h
    rw [List.filter_cons, List.takeWhile_cons]
    by_cases hx : x.at_ ≤ n
    · simp only [hx, decide_true, if_true]
      rw [ih h.2]
    · simp only [hx, decide_false, Bool.false_eq_true, if_false]
      rw [List.filter_eq_nil_iff]
      intro v hv
      have := goodFrom_lt h.2 v hv
      simp; omega
/-- What the document's loop has found in the first k. -/
def found (l : List Ver) (n : Int) : Option Ver := (l.filter fun v => decide (v.at_ ≤ n)).getLast?
theorem found_yes {l : List Ver} {n : Int} {k : Nat} {x : Ver} (hx : l[k]? = some x) (h : x.at_ ≤ n) : found (l.take (k + 1)) n = some x := by
  unfold found
  rw [List.take_add_one, hx, List.filter_append]
  simp [h]
theorem found_no {l : List Ver} {n : Int} {k : Nat} {x : Ver} (hx : l[k]? = some x) (h : ¬ x.at_ ≤ n) : found (l.take (k + 1)) n = found (l.take k) n := by
  unfold found
  rw [List.take_add_one, hx, List.filter_append]
  simp [h]
theorem found_all {l : List Ver} {n : Int} {k : Nat} (hg : good l = true) (hk : l.length ≤ k) : found (l.take k) n = seen l n := by
  unfold found seen
  rw [List.take_of_length_le hk, filter_takeWhile hg]

/-- A version in a block of its own. -/
def Box (w : World) (g : Nat) (x : Ver) : Prop := Blk w g x.enc.toArray 99
theorem Box.cells {w : World} {g : Nat} {x : Ver} (h : Box w g x) :
    (w.cell? ⟨g, 0, none⟩ = some (.int .i64 x.at_) ∧ w.cell? ⟨g, 1, none⟩ = some (.string x.val) ∧ w.cell? ⟨g, 2, none⟩ = some (.bool x.dead)) ∧
    w.frozen? ⟨g, 0, none⟩ = false ∧ w.frozen? ⟨g, 1, none⟩ = false ∧ w.frozen? ⟨g, 2, none⟩ = false :=
  ⟨⟨Blk.cell h 0, Blk.cell h 1, Blk.cell h 2⟩, Blk.frozen h 0, Blk.frozen h 1, Blk.frozen h 2⟩
theorem Box.put {w : World} {g : Nat} {x : Ver} (h : Box w g x) (y : Ver) :
    Box (((w.setCell ⟨g, 0, none⟩ (.int .i64 y.at_)).setCell ⟨g, 1, none⟩ (.string y.val)).setCell ⟨g, 2, none⟩ (.bool y.dead)) g y :=
  ((Blk.set h 0 _).set 1 _).set 2 _
theorem Box.away {w : World} {g : Nat} {x : Ver} (h : Box w g x) {g' : Nat} (hg : g ≠ g') (a b c : Value) :
    Box (((w.setCell ⟨g', 0, none⟩ a).setCell ⟨g', 1, none⟩ b).setCell ⟨g', 2, none⟩ c) g x :=
  ((Blk.far h hg _).far hg _).far hg _

theorem rget_calls (l : List Ver) (A : Option Addr) (n cap : Nat) (at_ : Int) (w : World) (hl : Sl tVer w (fun _ => True) (.slice A n cap) l) :
    Calls Try.prog 63 #[.slice A n cap, .int .i64 at_] w fun e w' => e = .returned (getV (get l at_)) ∧ Below w.heap.size w w' := by
  obtain ⟨hln, hcap, hm⟩ := hl.length
  have H := Lib.hid hl
  clear hl
  have hb1 : Below w.heap.size w (w.alloc (.cells #[.int .i64 0, .string ⟨#[]⟩, .bool false] 99)) := (Below.refl _ _).alloc (Nat.le_refl _) _
  cases hg : good l
  · have HG := Lib.hid hg
    go_enter Try.func63, Try.ntmps63
    go_wp2_with fail
    refine (rgood_calls l _ n cap _ (H.out.below hb1)).mono ?_
    rw [hg]
    rintro e w' ⟨rfl, hb⟩
    obtain ⟨hc, hf⟩ := bcell hb
    clear hg
    go_wp2
    have hz' := hb.size
    refine bodyPost_ret (v := getV none) ?_ rfl ⟨by rw [get, HG.out]; rfl, ?_⟩
    · simp [results, Try.results63, go_sem, hc, getV, Ver.enc, Ver.zero]
    · exact (((hb1.trans (hb.mono (by simp))).setCell (Nat.le_refl _) _).setCell (Nat.le_refl _) _).setCell (Nat.le_refl _) _
  · have HG := Lib.hid hg
    go_enter Try.func63, Try.ntmps63
    go_wp2_with fail
    refine (rgood_calls l _ n cap _ (H.out.below hb1)).mono ?_
    rw [hg]
    rintro e w1 ⟨rfl, hb⟩
    clear hg
    obtain ⟨hc, hf⟩ := bcell hb
    have hz1 : w.heap.size < w1.heap.size := by have := hb.size; simp at this; exact this
    have hb2 := hb1.trans (hb.mono (by simp))
    have hBox : Hid (Box w1 w.heap.size Ver.zero) := Blk.below (Blk.new w Ver.zero.enc.toArray 99) hb (by simp)
    clear hb hc hf
    have hz2 : w.heap.size ≤ w1.heap.size := by omega
    go_wp2
    go_loopw [7, 17] (fun c i w' => ∃ (k : Nat) (o : Option Ver), k ≤ n ∧ i = .int .i64 k ∧ c = .bool o.isSome ∧ Hid (found (l.take k) at_ = o) ∧ Hid (Box w' w.heap.size Ver.zero) ∧ Hid (Box w' w1.heap.size (o.getD Ver.zero)) ∧ w1.heap.size < w'.heap.size ∧ Below w.heap.size w w')
      (fun _ i _ => n - (intOf i).toNat)
    case atStart => exact ⟨0, none, by omega, rfl, rfl, rfl, Blk.alloc hBox.out _, Blk.new _ _ _, by simp, hb2.alloc hz2 _⟩
    case round =>
      obtain ⟨k, o, hk, rfl, rfl, hfo, hB0, hB6, hz3, hb⟩ := hrel
      have hz : w.heap.size ≤ wr.heap.size := hb.size
      have hne : w.heap.size ≠ w1.heap.size := by omega
      by_cases hlt : k < n
      · obtain ⟨⟨c1, c2, c3⟩, d1, d2, d3⟩ := hB6.out.cells
        obtain ⟨x, hx⟩ := some_at (show k < l.length by omega)
        obtain ⟨b, off, rfl, hbl, h0, h1, h2⟩ := sl_ver (H.out.below hb) hx
        by_cases hle : x.at_ ≤ at_
        · have hfo' := Lib.hid (found_yes hx hle)
          clear hx
          go_wp2
          go_roundw
          case rel => exact ⟨k + 1, some x, by omega, by go_num, rfl, hfo', Blk.alloc (hB0.out.away hne _ _ _) _, Blk.alloc (hB6.out.put x) _, by simp; omega, (((hb.setCell (by simp; omega) _).setCell (by simp; omega) _).setCell (by simp; omega) _).alloc (by simp; omega) _⟩
          case measure => simp [intOf]; omega
        · have hfo' := Lib.hid ((found_no hx hle).trans hfo.out)
          clear hx
          go_wp2
          go_roundw
          case rel => exact ⟨k + 1, o, by omega, by go_num, rfl, hfo', Blk.alloc hB0.out _, Blk.alloc hB6.out _, by simp; omega, hb.alloc hz _⟩
          case measure => simp [intOf]; omega
      · have hfin : Hid (get l at_ = live o) := by rw [get, HG.out, if_pos rfl, ← hfo.out, found_all HG.out (by omega)]; rfl
        obtain ⟨⟨a1, a2, a3⟩, b1, b2, b3⟩ := hB0.out.cells
        cases o with
        | none =>
          obtain ⟨⟨c1, c2, c3⟩, d1, d2, d3⟩ := hB6.out.cells
          go_wp2
          refine bodyPost_ret (v := getV none) ?_ rfl ⟨by rw [hfin.out]; rfl, ?_⟩
          · simp [results, Try.results63, go_sem, getV, Ver.enc, Ver.zero, *]
          · exact (((hb.setCell (Nat.le_refl _) _).setCell (Nat.le_refl _) _).setCell (Nat.le_refl _) _)
        | some x =>
          obtain ⟨⟨c1, c2, c3⟩, d1, d2, d3⟩ := hB6.out.cells
          simp only [Option.getD_some] at c1 c2 c3
          cases hd : x.dead
          · rw [hd] at c3
            have hd' := Lib.hid hd
            clear hd
            go_wp2
            refine bodyPost_ret (v := getV (some x)) ?_ rfl ⟨by rw [hfin.out]; simp [live, hd'.out], ?_⟩
            · simp [results, Try.results63, go_sem, getV, Ver.enc, hd'.out, *]
            · exact (((hb.setCell (Nat.le_refl _) _).setCell (Nat.le_refl _) _).setCell (Nat.le_refl _) _)
          · rw [hd] at c3
            have hd' := Lib.hid hd
            clear hd
            go_wp2
            refine bodyPost_ret (v := getV none) ?_ rfl ⟨by rw [hfin.out]; simp [live, hd'.out], ?_⟩
            · simp [results, Try.results63, go_sem, getV, Ver.enc, Ver.zero, *]
            · exact (((hb.setCell (Nat.le_refl _) _).setCell (Nat.le_refl _) _).setCell (Nat.le_refl _) _)
end Go.Proofs.Ytnleldogmogkgaa
