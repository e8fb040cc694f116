import Derived.Test.YtidjcdfdfbomiaaW16
import Derived.Deep.DeepAppendRoom
import Derived.Lib.SliceRun
/-! What each appends to: a row that is written again behind its end. -/
namespace Go.Proofs.Ytidjcdfdfbomiaa
open Go.RowKit Go.Op Go.Shelf

def none_ : Nat → Prop := fun _ => False
/-- What has been picked so far, in a row of the walk's own. -/
abbrev Path (w : World) (base : Nat) (v : Value) (l : List Int) : Prop := Own tI w base 3 none_ v l

theorem cells_ints {w : World} {ok : Nat → Prop} : ∀ {l : List Int} {cs : List Value}, Cells tI w ok l cs → cs = l.map fun k => Value.int .i64 k
  | [], _, h => h
  | _ :: _, _, ⟨c, d, e, h1, h2⟩ => by rw [e, cells_ints h2]; rw [show c = _ from h1]; rfl
theorem ints_cells (w : World) (ok : Nat → Prop) : ∀ l : List Int, Cells tI w ok l (l.map fun k => Value.int .i64 k)
  | [] => rfl
  | k :: l => ⟨[.int .i64 k], l.map fun k => Value.int .i64 k, rfl, rfl, ints_cells w ok l⟩
theorem Path.row {w : World} {base : Nat} {v : Value} {l : List Int} (h : Path w base v l) : w.ownsRow base 3 1 v l.length (l.map fun k => Value.int .i64 k) := by
  obtain ⟨cs, h1, h2⟩ := h
  rw [cells_ints h2] at h1
  exact h1
theorem Path.mk {w : World} {base : Nat} {v : Value} {l : List Int} (h : w.ownsRow base 3 1 v l.length (l.map fun k => Value.int .i64 k)) : Path w base v l := ⟨_, h, ints_cells _ _ _⟩

/-- One more: what it was stays behind it, whatever is written of what came. -/
theorem push_run {base : Nat} {W : World} {v : Value} {l : List Int} (k : Int) (HO : Path W base v l) (hbase : base ≤ W.heap.size) (hl : l.length < 100000) (ty : TypeId) :
    ∃ v1 w1, (Builtin.append_ #[34, 34] ty #[v, .slice (some ⟨W.heap.size, 0, none⟩) 1 1]).run Try.prog (W.alloc (.cells #[.int .i64 k] 3)) = .ok v1 w1 ∧ Path w1 base v1 (l ++ [k]) ∧ W.grownBy w1 v.ownBlock ∧
      (v1.ownBlock = v.ownBlock ∨ ∃ b, v1.ownBlock = some b ∧ W.heap.size ≤ b) ∧
      (∀ w2, Path w2 base v1 (l ++ [k]) → (∀ b, v.ownBlock = some b → v1.ownBlock ≠ some b → w2.heap[b]? = w1.heap[b]?) → Path w2 base v l) := by
  obtain ⟨i0, hi, hzz⟩ := Option.map_eq_some_iff.1 info3
  simp only [Prod.mk.injEq] at hzz
  obtain ⟨hz0, hz1, hz2⟩ := hzz
  have hr0 := HO.row
  have hr1 : (W.alloc (.cells #[.int .i64 k] 3)).ownsRow base 3 1 v l.length (l.map fun k => Value.int .i64 k) := hr0.alloc _
  have hcell : ∀ (j : Nat) u, [Value.int .i64 k][j]? = some u → (W.alloc (.cells #[.int .i64 k] 3)).cell? ((⟨W.heap.size, 0, none⟩ : Addr).add j) = some u := by
    intro j u hj
    rw [show (⟨W.heap.size, 0, none⟩ : Addr).add j = ⟨W.heap.size, 0 + j, none⟩ by unfold Addr.add; split <;> simp_all]
    rw [(Blk.new W #[.int .i64 k] 3).cell (0 + j)]
    simpa using hj
  have hone : ∀ u ∈ [Value.int .i64 k], u.oneCell' = true := by intro u hu; simp at hu; rw [hu]; rfl
  have hmap : (l ++ [k]).map (fun k => Value.int .i64 k) = (l.map fun k => Value.int .i64 k) ++ [.int .i64 k] := by simp
  obtain ⟨v1, w1, hrun, hown, hg, -, hat⟩ := run_append_own_at (P := Try.prog) (W.alloc (.cells #[.int .i64 k] 3)) base 34 ty 3 i0 _ 1 8 Try.underlying34 hi hz0 hz1 hz2 rfl (by decide) v l.length _ hr1 ⟨W.heap.size, 0, none⟩ 1 1 [.int .i64 k] rfl hcell hone
    (by simp only [maxLen]; omega) (by omega) (by simp; omega)
  have hP1 : Path w1 base v1 (l ++ [k]) := Path.mk (by rw [List.length_append, hmap]; exact hown)
  refine ⟨v1, w1, hrun, hP1, World.grownBy.trans (World.grownBy_alloc W _ _) hg, hat.imp id fun h => ⟨_, h, by simp⟩, ?_⟩
  intro w2 h2 hkeep
  rcases hr0.2 with ⟨rfl, h0⟩ | ⟨g, cap, cur, rfl, hbg, hgg, hnc, hcm, hcs, htake⟩
  · obtain rfl := List.eq_nil_of_length_eq_zero h0
    exact Own.nil _ _ _ _ _
  · by_cases hroom : l.length + 1 ≤ cap
    · obtain ⟨w1', hrun', -, -⟩ := run_append_own_spare (P := Try.prog) (W.alloc (.cells #[.int .i64 k] 3)) base 34 ty 3 i0 1 Try.underlying34 hi hz1 g l.length cap _ hr1 ⟨W.heap.size, 0, none⟩ 1 1 [.int .i64 k] rfl hcell hone hroom
      rw [hrun] at hrun'
      injection hrun' with e1 e2
      subst e1
      have hr2 := h2.row
      rcases hr2.2 with ⟨h, -⟩ | ⟨g', cap', cur', e, hbg', hgg', hnc', hcm', hcs', htake'⟩
      · cases h
      · injection e with e1 e2 e3
        injection e1 with e1
        injection e1 with e1
        subst e1 e3
        refine Path.mk ⟨by simp, .inr ⟨g, cap, cur', rfl, hbg', hgg', by omega, hcm', hcs', ?_⟩⟩
        rw [hmap] at htake'
        have : cur'.toList.take (l.length * 1) = (cur'.toList.take ((l ++ [k]).length * 1)).take (l.length * 1) := by
          rw [List.take_take]; congr 1; simp
        rw [this, htake', List.take_left' (by simp)]
    · have holds : ∀ j u, (l.map fun k => Value.int .i64 k)[j]? = some u → (W.alloc (.cells #[.int .i64 k] 3)).cell? ((⟨g, 0, none⟩ : Addr).add j) = some u := hr1.cells (g := g) rfl
      have hrun' := run_append_grow (P := Try.prog) (W.alloc (.cells #[.int .i64 k] 3)) 34 ty 3 i0 _ Try.underlying34 hi hz0 ⟨g, 0, none⟩ l.length cap _ (by rw [hz1]; simp) holds ⟨W.heap.size, 0, none⟩ 1 1 [.int .i64 k] (by rw [hz1]; rfl) hcell (by omega) (by omega) (by rw [hz2]; exact growslice_fits (by omega) (by omega))
      rw [hrun] at hrun'
      injection hrun' with e1 e2
      have hne : v1.ownBlock ≠ some g := by
        rw [e1]
        intro h
        injection h with h
        have := (Array.getElem?_eq_some_iff.1 hgg).1
        simp at h
        omega
      have hgl := (Array.getElem?_eq_some_iff.1 hgg).1
      have hw1 : w1.heap[g]? = W.heap[g]? := by
        rw [e2, alloc_heap, drew_heap, alloc_heap, if_neg (by simp; omega), if_neg (by omega)]
      have := (hkeep g rfl hne).trans hw1
      exact Path.mk ⟨by simp, .inr ⟨g, cap, cur, rfl, hbg, this.trans hgg, hnc, hcm, hcs, htake⟩⟩

/-- append of one number, as the walk of a body within a fence comes to it. -/
theorem wpListIn_push {F : Fence} {n : Nat} {ops : Array Oper} {rest : List Oper} {o : Oper} {a : Act} {Q : Exit → Act → World → Prop} (hgd : o.guard = none) (s x : Operand)
    (ho : o.op = .call { callee := .builtin .append, args := #[s, x], argTypes := #[34, 34] }) {base : Nat} {W : World} {v : Value} {l : List Int} {k : Int} {g : Nat} (hgz : W.heap.size = g)
    (hs : a.eval s = v) (hx : a.eval x = .slice (some ⟨g, 0, none⟩) 1 1) (HO : Path W base v l) (hbase : base ≤ W.heap.size) (hl : l.length < 100000)
    (h : ∀ v1 w1, Path w1 base v1 (l ++ [k]) → W.grownBy w1 v.ownBlock → (v1.ownBlock = v.ownBlock ∨ ∃ b, v1.ownBlock = some b ∧ W.heap.size ≤ b) →
      (∀ w2, Path w2 base v1 (l ++ [k]) → (∀ b, v.ownBlock = some b → v1.ownBlock ≠ some b → w2.heap[b]? = w1.heap[b]?) → Path w2 base v l) → wpListIn F n Try.prog ops Q rest (a.put o.dst v1) w1) :
    wpListIn F n Try.prog ops Q (o :: rest) a (W.alloc (.cells #[.int .i64 k] 3)) := by
  subst hgz
  refine wpListIn_plain hgd fun K hK' => ?_
  obtain ⟨v1, w1, hrun, r1, r2, r3, r4⟩ := push_run k HO hbase hl o.type
  unfold Oper.wpIn
  refine ⟨?_, ?_⟩
  · simp [Oper.about, ho, resolve, Target.leads, Sem.run_pure]
  · rw [Oper.semAt_plain F _ _ (by rw [ho]; intro c hc'; cases hc')]
    simp [execOp, ho, resolve, invoke, builtin, hs, hx, hrun, Result.andThen]
    exact hK' _ _ (h v1 w1 r1 r2 r3 r4)

theorem clone_calls (l : List Int) (Ah : Option Addr) (nh ch : Nat) (w : World) (hl : Sl tI w (fun _ => True) (.slice Ah nh ch) l) (hn : nh < 100000) :
    Calls Try.prog 32 #[.slice Ah nh ch] w fun e w' => ∃ v, e = .returned v ∧ Sl tI w' (fun b => w.heap.size ≤ b) v l ∧ Below w.heap.size w w' := by
  have hln := hl.length.1
  have hqn : ∀ (w : World) (a : Option Addr) (n c n' c' : Nat), (binOp .eql 34 (.slice a n c) (.slice none n' c')).run Try.prog w = .ok (.bool a.isNone) w := fun w a n c n' c' => Lib.run_eql_slice_nil w _ _ a n c n' c' Try.underlying34
  cases Ah with
  | none =>
    obtain ⟨A, cap, cs, he, h1, ⟨h2, h3⟩, -, -⟩ := hl
    cases he
    have h0 := h3 rfl
    obtain rfl : l = [] := List.eq_nil_of_length_eq_zero (by omega)
    subst h0
    have hX := Lib.hid (Below.refl w.heap.size w)
    go_enter Try.func32, Try.ntmps32
    go_wp2
    go_ret
    exact ⟨_, rfl, Sl.nil _ _ _, hX.out⟩
  | some ad =>
    have HE : Hid (Own tI (w.alloc (.cells #[] 3)) w.heap.size 3 (fun _ => False) (.slice (some ⟨w.heap.size, 0, none⟩) 0 0) []) := Own.empty tI w 3 _ (Nat.le_refl _)
    have hb := (Below.refl w.heap.size w).alloc (Nat.le_refl _) (.cells #[] 3)
    have HB2 := Lib.hid hb
    have HX2 := Lib.hid (sl_int_x (hl.below hb) (fun b => False ∧ (Value.slice (some ⟨w.heap.size, 0, none⟩) 0 0).ownBlock ≠ some b))
    clear hl hb
    go_enter Try.func32, Try.ntmps32
    go_wp2_with (at_builtin
                 refine wpList_appSl (o := ⟨some 7, _, _, _, _, _⟩) (t := tI) (w0 := w) (l := []) (m := l) w.heap.size rfl _ _ 34 3 _ 8 rfl Try.underlying34 info3 rfl (by decide) (by decide) rfl rfl HE.out HX2.out HB2.out ?c2 ?c3 ?_; (case c2 => exact HB2.out.size); (case c3 => rw [List.length_nil, hln]; omega); intro v3 w3 hO3 hB3 _ _
                 rw [List.nil_append] at hO3
                 have HO3 := Lib.hid hO3
                 have HB3 := Lib.hid hB3
                 clear hO3 hB3)
    go_ret
    exact ⟨_, rfl, HO3.out.sl.mono fun b hb => hb.elim False.elim And.left, HB3.out⟩
