import Derived.Test.YtidjcdfdfbomiaaW19
/-! ScheduleCounts. -/
namespace Go.Proofs.Ytidjcdfdfbomiaa
open Go.RowKit Go.Op Go.Shelf
attribute [local go_sem] Oper.semAt_some

theorem light_few (l : List Plan) (A : Option Addr) (n cap : Nat) (w : World) (hl : Sl tPlan w (fun _ => True) (.slice A n cap) l) (ho : ∀ p ∈ l, PlanOk p) :
    Calls Try.prog 5 #[.slice A n cap, .int .i64 100] w fun e w' => ∃ b : Bool, e = .returned (.bool b) ∧ (b = true → n ≤ 70) ∧ Below w.heap.size w w' := by
  by_cases h70 : 70 < n
  · have hX := Lib.hid (Below.refl w.heap.size w)
    go_enter Try.func5, Try.ntmps5
    go_wp2
    go_ret
    exact ⟨false, rfl, by simp, hX.out⟩
  · refine (light_calls l A n cap 100 w hl ho (by omega) (by omega)).mono ?_
    rintro e w' ⟨b, rfl, hb⟩
    exact ⟨b, rfl, fun _ => by omega, hb⟩

theorem res_cell {tmps : Array Value} {W : World} {g : Nat} {b : Bool} (ht : tmps[6]? = some (.pointer (some ⟨g, 0, none⟩))) (hc : W.cell? ⟨g, 0, none⟩ = some (.bool b)) : (results Try.f3 tmps).run Try.prog W = .ok (.bool b) W := by
  simp [results, Try.results3, ht, go_sem, hc]
/-- The first q of what comes. -/
theorem want_eq (l : List Plan) (q : Int) : (if good l = true ∧ 1 ≤ q then (orders l).take q.toNat else []) = (allL l).take q.toNat := by
  unfold allL
  by_cases hg : good l = true
  · by_cases h1 : 1 ≤ q
    · rw [if_pos ⟨hg, h1⟩, if_pos hg]
    · rw [if_neg (fun h => h1 h.2), show q.toNat = 0 by omega]; rfl
  · rw [if_neg (fun h => hg h.1), if_neg hg]; simp
theorem count_want (l : List Plan) (m : Int) : countV l m = ((allL l).take m.toNat).length := by
  unfold allL
  by_cases hg : good l = true
  · rw [if_pos hg]
    by_cases h1 : 1 ≤ m
    · obtain ⟨k, rfl⟩ : ∃ k : Nat, m = k := ⟨m.toNat, by omega⟩
      rw [full_count hg (by omega), List.length_take, Int.toNat_natCast, Nat.min_comm]; rfl
    · rw [countV, if_neg (by simp [hg]; omega), show m.toNat = 0 by omega]; rfl
  · rw [countV, if_neg (by simp [hg]), if_neg hg]; simp

theorem range_law_at {n : Nat} {P : Program} {α : Type} {g : Operand} {p d : Tmp} {assign body : Code} {Q : Exit → Act → World → Prop} {a : Act} {w : World}
    (h1 : 1 ≤ n) {gf : Nat} {lb : Array Value} (hg : a.eval g = .func (.func gf) #[] lb) (eg : ∀ args w, (callFunc gf args).run P w = .ok (.enter gf args) w)
    (lo z : Nat) (hz : w.heap.size = z) (hlo : lo ≤ z) (S : List α) (V : Nat → α → Value → World → Prop)
    (hseq : ∀ (l : Nat) (J Jx : List α → World → Prop) (W : World), Below z w W → (∀ s A B, J s A → Below W.heap.size A B → J s B) →
      (∀ pre x v W1, J pre W1 → pre ++ [x] <+: S → V W.heap.size x v W1 → YieldAt Fence.wide (n - 1 - 1) P l #[v] W1 fun e W' => (e = .returned (.bool true) ∧ J (pre ++ [x]) W' ∧ Stays lo W.heap.size W1 W') ∨ (e = .returned (.bool false) ∧ Jx (pre ++ [x]) W' ∧ Stays lo W.heap.size W1 W')) → J [] W →
      (∀ s A B, Jx s A → Below W.heap.size A B → Jx s B) →
      CallsIn Fence.wide (n - 1) P gf (#[.func (.yield l) #[] #[]] ++ lb) W fun e W' => (∃ v, e = .returned v) ∧ (J S W' ∨ (∃ pre, Jx pre W')))
    (I : List α → World → Prop) (Ix : Code → List α → World → Prop) (hI : ∀ s A B, I s A → Below z A B → I s B) (hIx : ∀ c s A B, Ix c s A → Below z A B → Ix c s B) (h0 : I [] w)
    (hassign : ∀ (l : Nat) (v : Value) (W : World) (K : Act → World → Prop), K { tmps := (a.tmps.setIfInBounds p v).setIfInBounds d v, defers := [] } W →
      assign.wpIn (Fence.wide.inRound l) (n - 1 - 1) P (Exit.then K (fun _ _ _ => False)) { tmps := a.tmps.setIfInBounds p v, defers := [] } W)
    (hbody : ∀ (l : Nat) (pre : List α) (x : α) (v : Value) (W W0 : World), I pre W → pre ++ [x] <+: S → V (z + 2) x v W0 → Stays lo (z + 2) W0 W → body.wpIn (Fence.wide.inRound l) (n - 1 - 1) P (leftBy lo z I Ix (pre ++ [x]) W) { tmps := (a.tmps.setIfInBounds p v).setIfInBounds d v, defers := [] } W)
    (hdone : ∀ (D : Nat) (W : World), z ≤ D → I S W → W.heap[D]? = some (.deferred (some [])) → Q .normal { a with defers := { target := .collected D, args := #[] } :: a.defers } W)
    (hstop : ∀ (D : Nat) (c : Code) (pre : List α) (W : World), z ≤ D → Ix c pre W → W.heap[D]? = some (.deferred (some [])) → c.wpIn Fence.wide n P Q { a with defers := { target := .collected D, args := #[] } :: a.defers } W) :
    (Code.rangeFunc g #[p] assign body).wpIn Fence.wide n P Q a w := by
  subst hz
  exact range_law (F := Fence.wide) rfl h1 hg trivial eg lo hlo S V hseq I Ix hI hIx h0 (fun v => { tmps := (a.tmps.setIfInBounds p v).setIfInBounds d v, defers := [] }) hassign hbody hdone hstop

/-- What the loop's cells hold: c rounds are over. -/
def CI (w : World) (zi zn zw q : Nat) (A4 : Option Addr) (k4 c4 : Nat) (L : List (List Int)) (c : Nat) (W : World) : Prop :=
  (Blk W zi #[.int .i64 c] 3 ∧ Blk W w.heap.size #[.bool false] 4 ∧ Blk W zn #[.int .i64 q] 3 ∧ Blk W zw #[.slice A4 k4 c4] 28) ∧ Sl tI.slice W (fun b => b < zi) (.slice A4 k4 c4) L ∧ Below w.heap.size w W ∧ w.heap.size < zi ∧ zn < zi ∧ zw < zi
section
variable {w : World} {zi zn zw q : Nat} {A4 : Option Addr} {k4 c4 : Nat} {L : List (List Int)} {c : Nat} {W W' : World}
theorem CI.below (h : CI w zi zn zw q A4 k4 c4 L c W) (hb : Below (zi + 1) W W') : CI w zi zn zw q A4 k4 c4 L c W' := by
  obtain ⟨⟨h1, h2, h3, h4⟩, h5, h6, h7, h8, h9⟩ := h
  exact ⟨⟨h1.below hb (by omega), h2.below hb (by omega), h3.below hb (by omega), h4.below hb (by omega)⟩, h5.step fun b hk => hb.block b (by omega), h6.trans (hb.mono (by omega)), h7, h8, h9⟩
theorem CI.set (h : CI w zi zn zw q A4 k4 c4 L c W) (d : Nat) : CI w zi zn zw q A4 k4 c4 L d (W.setCell ⟨zi, 0, none⟩ (.int .i64 (d : Int))) := by
  obtain ⟨⟨h1, h2, h3, h4⟩, h5, h6, h7, h8, h9⟩ := h
  exact ⟨⟨h1.set 0 _, h2.far (by show _ ≠ zi; omega) _, h3.far (by show _ ≠ zi; omega) _, h4.far (by show _ ≠ zi; omega) _⟩, h5.step fun b hk => Below.heap_setCell _ _ _ _ (by show b ≠ zi; omega), h6.setCell (p := ⟨zi, 0, none⟩) (by show _ ≤ zi; omega) _, h7, h8, h9⟩
end
theorem stays_set {lo z zi : Nat} (W : World) (v : Value) (h1 : lo ≤ zi) (h2 : zi < z) : Stays lo z W (W.setCell ⟨zi, 0, none⟩ v) :=
  ⟨by simp, fun b hb _ => Below.heap_setCell _ _ _ _ (by show b ≠ zi; omega)⟩
theorem enters19 (args : Array Value) (w : World) : (callFunc 19 args).run Try.prog w = .ok (.enter 19 args) w := enters_of Try.func19 (by kernel_rfl) rfl args w
theorem take_at {α : Type} {S pre : List α} {x : α} {q : Nat} (h : pre ++ [x] <+: S) (hq : pre.length < q) : (S.take q)[pre.length]? = some x := by
  obtain ⟨t, rfl⟩ := h
  rw [List.getElem?_take_of_lt hq, List.append_assoc, List.getElem?_append_right (Nat.le_refl _)]
  simp
theorem pre_len {α : Type} {S pre : List α} (h : pre <+: S) : pre.length ≤ S.length := h.length_le

theorem end_mark {w w9 : World} {D : Nat} {tmps : Array Value} (hbk : Blk w9 w.heap.size #[.bool false] 4) (hK : w9.heap[D]? = some (.deferred (some []))) (hne : w.heap.size ≠ D) (hb : Below w.heap.size w w9) (hb1 : w.heap.size ≤ D) (ht : tmps[6]? = some (.pointer (some ⟨w.heap.size, 0, none⟩))) :
    bodyPostM Fence.wide 4 Try.prog Try.f3 (fun e w' => e = .returned (.bool true) ∧ Below w.heap.size w w') .ret ⟨tmps, [{ target := .collected D, args := #[] }]⟩ (w9.setCell ⟨w.heap.size, 0, none⟩ (.bool true)) := by
  have hK' : (w9.setCell ⟨w.heap.size, 0, none⟩ (.bool true)).heap[D]? = some (.deferred (some [])) := (Below.heap_setCell _ _ _ _ (by show D ≠ w.heap.size; omega)).trans hK
  refine ⟨by simp, .inl ⟨_, _, rfl, run_takeDeferred hK', ?_⟩⟩
  have hc := ((hbk.set 0 (.bool true)).cell 0)
  refine ⟨_, res_cell ht ?_, rfl, ?_⟩
  · rw [World.cell?_of_block (w := w9.setCell ⟨w.heap.size, 0, none⟩ (.bool true)) (World.putObj_heap_other (by omega))]
    exact hc
  · exact (hb.setCell (p := ⟨w.heap.size, 0, none⟩) (Nat.le_refl _) _).grown (grownBy_putObj' _ D _) (by simpa using hb.size) (fun k e => by cases e; exact hb1)

set_option maxHeartbeats 16000000 in
theorem counts_calls (l : List Plan) (A : Option Addr) (n cap : Nat) (most s : Int) (w : World) (hl : Sl tPlan w (fun _ => True) (.slice A n cap) l) (ho : ∀ p ∈ l, PlanOk p) (hs : 0 ≤ s ∧ s < 18446744073709551616) :
    Calls Try.prog 3 #[.slice A n cap, .int .i64 most, .int .u64 s] w fun e w' => e = .returned (.bool true) ∧ Below w.heap.size w w' := by
  refine (callsIn_wide (n := 4)).1 ?_
  refine callsIn_of_wp_marks Try.func3 rfl trivial ?_ rfl
  simp only [Try.ntmps3, List.size_toArray, List.length_cons, List.length_nil, Nat.reduceAdd, Nat.reduceSub, Array.replicate_succ, Array.replicate_zero, List.push_toArray, List.append_toArray, List.nil_append, List.cons_append]
  refine wpIn_wide.2 ?_
  have hB0 := (Below.refl w.heap.size w).alloc (Nat.le_refl _) (.cells #[.bool false] 4)
  have hbk : Blk (w.alloc (.cells #[.bool false] 4)) w.heap.size #[.bool false] 4 := Blk.new _ _ _
  have HF := Lib.hid (light_few l A n cap (w.alloc (.cells #[.bool false] 4)) (hl.below ((Below.refl w.heap.size w).alloc (Nat.le_refl _) _)) ho)
  have hln := hl.length.1
  have HL := Lib.hid hl.inb
  have HOK := Lib.hid ho
  clear hl ho
  go_wp2_with fail
  refine HF.out.mono ?_
  rintro e w1 ⟨b, rfl, hb70, hb⟩
  have hz1 : w.heap.size + 1 ≤ w1.heap.size := by have := hb.size; simpa using this
  have hB1 : Below w.heap.size w w1 := hB0.trans (hb.mono (by simp))
  have hbk1 : Blk w1 w.heap.size #[.bool false] 4 := hbk.below hb (by simp)
  have y0 := hbk1.cell 0
  have y1 := hbk1.frozen 0
  have HB1 := Lib.hid hB1
  clear hB0 hbk HF hb hB1
  cases b
  · go_wp2_with fail
    refine (lives_calls _).mono ?_
    rintro e w2 ⟨rfl, hb2⟩
    have hbk2 : Blk w2 w.heap.size #[.bool false] 4 := hbk1.below hb2 (by omega)
    have y2 := hbk2.cell 0
    have y3 := hbk2.frozen 0
    have hB2 := Lib.hid (HB1.out.trans (hb2.mono HB1.out.size))
    clear hb2 y0 y1
    go_wp2
    exact ⟨_, res_cell rfl (World.cell?_setCell_same' _ _ _ (by rw [y2]; rfl)), rfl, hB2.out.setCell (p := ⟨w.heap.size, 0, none⟩) (Nat.le_refl _) _⟩
  · have hn70 := hb70 rfl
    by_cases hm : 200 < most
    · go_wp2_with fail
      refine (lives_calls _).mono ?_
      rintro e w2 ⟨rfl, hb2⟩
      have hbk2 : Blk w2 w.heap.size #[.bool false] 4 := hbk1.below hb2 (by omega)
      have y2 := hbk2.cell 0
      have y3 := hbk2.frozen 0
      have hB2 := Lib.hid (HB1.out.trans (hb2.mono HB1.out.size))
      clear hb2 y0 y1
      go_wp2
      exact ⟨_, res_cell rfl (World.cell?_setCell_same' _ _ _ (by rw [y2]; rfl)), rfl, hB2.out.setCell (p := ⟨w.heap.size, 0, none⟩) (Nat.le_refl _) _⟩
    · have HL1 : Hid (Sl tPlan w1 (fun b => b < w.heap.size) (.slice A n cap) l) := (HL.out.step fun b hb => HB1.out.block b hb.2).mono fun b hb => hb.2
      have HP := Lib.hid (plain_calls l A n cap w1 (HL1.out.mono fun _ _ => trivial) HOK.out (by omega))
      go_wp2_with fail
      refine HP.out.mono ?_
      rintro e w2 ⟨v, rfl, hs2, hb2⟩
      obtain ⟨Av, cv, rfl, -⟩ := hs2.form
      rw [hln]
      rw [hln] at hs2
      obtain ⟨q, hq, hq100⟩ : ∃ q : Nat, s.tmod 100 = (q : Int) ∧ q < 100 := ⟨(s.tmod 100).toNat, by have := Int.tmod_nonneg 100 hs.1; omega, by have := Int.tmod_lt_of_pos s (show (0:Int) < 100 by omega); omega⟩
      clear HP y0 y1
      go_wp2_with fail
      have hzz2 := hb2.size
      obtain ⟨w3, hw3⟩ : ∃ w3, w2.alloc (.cells #[.int .i64 (q : Int)] 3) = w3 := ⟨_, rfl⟩
      have hz3 : w3.heap.size = w2.heap.size + 1 := by rw [← hw3]; simp
      have hb3 : Below w2.heap.size w2 w3 := by rw [← hw3]; exact (Below.refl _ _).alloc (Nat.le_refl _) _
      have hN3 : Blk w3 w2.heap.size #[.int .i64 (q : Int)] 3 := by rw [← hw3]; exact Blk.new _ _ _
      rw [hw3]
      have HS3 := Lib.hid (hs2.below hb3)
      refine (rAll_calls l Av n cv (q : Int) w3 HS3.out (by omega)).mono ?_
      rintro e w4 ⟨v4, rfl, hs4, hb4⟩
      rw [want_eq, Int.toNat_natCast] at hs4
      obtain ⟨A4, c4, rfl, -⟩ := hs4.form
      obtain ⟨k4, hk4⟩ : ∃ k4, ((allL l).take q).length = k4 := ⟨_, rfl⟩
      rw [hk4] at hs4 ⊢
      have hz4 := hb4.size
      go_wp2_with fail
      obtain ⟨w5, hw5⟩ : ∃ w5, w4.alloc (.cells #[.slice A4 k4 c4] 28) = w5 := ⟨_, rfl⟩
      have hz5 : w5.heap.size = w4.heap.size + 1 := by rw [← hw5]; simp
      have hb5 : Below w4.heap.size w4 w5 := by rw [← hw5]; exact (Below.refl _ _).alloc (Nat.le_refl _) _
      have hW5 : Blk w5 w4.heap.size #[.slice A4 k4 c4] 28 := by rw [← hw5]; exact Blk.new _ _ _
      rw [hw5]
      refine (all_calls A n cap w5).mono ?_
      rintro e w6 ⟨rfl, hw6⟩
      have hz6 : w6.heap.size = w5.heap.size + 1 := by rw [hw6]; simp
      have hb6 : Below w5.heap.size w5 w6 := by rw [hw6]; exact (Below.refl _ _).alloc (Nat.le_refl _) _
      have hX6 : Blk w6 w5.heap.size #[.slice A n cap] 22 := by rw [hw6]; exact Blk.new _ _ _
      clear hw6 hw5 hw3
      have hfn : ∀ (bx : Nat) W, (binOp .eql 31 (.func (.func 19) #[] #[.pointer (some ⟨bx, 0, none⟩)]) .nilFunc).run Try.prog W = .ok (.bool false) W := fun _ _ => by kernel_rfl
      have hb36 : Below w3.heap.size w3 w6 := (hb4.trans (hb5.mono hz4)).trans (hb6.mono (by omega))
      have hb16 : Below w1.heap.size w1 w6 := (hb2.trans (hb3.mono hzz2)).trans (hb36.mono (by omega))
      have HC := Lib.hid (count_calls l A n cap most w6 ((HL1.out.below hb16).mono fun _ _ => trivial) (by omega))
      rw [count_want] at HC
      go_wp2_with fail
      refine HC.out.mono ?_
      rintro e w7 ⟨rfl, hb7⟩
      have hz7 := hb7.size
      have hb37 : Below w3.heap.size w3 w7 := hb36.trans (hb7.mono hb36.size)
      have HR := Lib.hid (rAll_calls l Av n cv most w7 (HS3.out.below hb37) (by omega))
      rw [want_eq] at HR
      go_wp2_with fail
      refine HR.out.mono ?_
      rintro e w8 ⟨v8, rfl, hs8, hb8⟩
      obtain ⟨A8, c8, rfl, -⟩ := hs8.form
      have hz8 := hb8.size
      clear HC HR hs8
      go_wp2_with fail
      obtain ⟨z, hz⟩ : ∃ z, w8.heap.size = z := ⟨_, rfl⟩
      rw [hz] at ⊢
      have hS0 : CI w z w2.heap.size w4.heap.size q A4 k4 c4 ((allL l).take q) 0 (w8.alloc (.cells #[.int .i64 0] 3)) := by
        have hb48 : Below w5.heap.size w5 w8 := ((hb6.trans (hb7.mono (by omega))).trans (hb8.mono (by omega)))
        have hb48' : Below w5.heap.size w5 (w8.alloc (.cells #[.int .i64 0] 3)) := hb48.alloc (by omega) _
        have hb18 : Below w1.heap.size w1 (w8.alloc (.cells #[.int .i64 0] 3)) := ((hb16.trans (hb7.mono (by omega))).trans (hb8.mono (by omega))).alloc (by omega) _
        have hb38 : Below w3.heap.size w3 (w8.alloc (.cells #[.int .i64 0] 3)) := (hb37.trans (hb8.mono (by omega))).alloc (by omega) _
        have hb4 : Below w4.heap.size w4 (w8.alloc (.cells #[.int .i64 0] 3)) := hb5.trans (hb48'.mono (by omega))
        refine ⟨⟨?_, hbk1.below hb18 (by omega), hN3.below hb38 (by omega), hW5.below hb48' (by omega)⟩, (hs4.inb.step fun b hk => hb4.block b hk.2).mono (fun b hb => ?_), HB1.out.trans (hb18.mono (by omega)), by omega, by omega, by omega⟩
        · rw [← hz]; exact Blk.new _ _ _
        · have := hb.2; omega
      have HS0 := Lib.hid hS0
      have hLW : Hid (Sl tPlan (w8.alloc (.cells #[.int .i64 0] 3)) (fun b => b < w.heap.size) (.slice A n cap) l) :=
        HL1.out.step fun b hb => (((hb16.trans (hb7.mono (by omega))).trans (hb8.mono (by omega))).alloc (by omega) _).block b (by omega)
      have hXW : Hid (Blk (w8.alloc (.cells #[.int .i64 0] 3)) (w4.heap.size + 1) #[.slice A n cap] 22) := by
        rw [← hz5]; exact hX6.below ((hb7.trans (hb8.mono hz7)).alloc (by omega) _) (by omega)
      clear hS0 hb2 hb3 hN3 HS3 hb4 hW5 hb5 hb6 hX6 hb36 hb16 hb7 hb37 hb8 hs4 hs2 hbk1
      refine (wpIn_wide (n := 4)).1 ?_
      refine range_law_at (d := 12) (gf := 19) (lb := #[.pointer (some ⟨w4.heap.size + 1, 0, none⟩)]) (by omega) rfl enters19 w.heap.size (z + 1) (by simp [hz]) (by omega) (allL l)
        (fun m x v W => Sl tI W (fun b => m ≤ b) v x) ?seq
        (fun s W => s <+: allL l ∧ s.length ≤ q ∧ CI w z w2.heap.size w4.heap.size q A4 k4 c4 ((allL l).take q) s.length W)
        (fun c s W => c = .exit 0 ∧ s <+: allL l ∧ s.length = q + 1 ∧ CI w z w2.heap.size w4.heap.size q A4 k4 c4 ((allL l).take q) q W)
        (fun s X Y h hb => ⟨h.1, h.2.1, h.2.2.below hb⟩) (fun c s X Y h hb => ⟨h.1, h.2.1, h.2.2.1, h.2.2.2.below hb⟩)
        ⟨List.nil_prefix, by simp, HS0.out⟩ ?assign ?body ?done ?stop
      case seq =>
        intro lid J Jx W hW hJ hY h0 hJx
        have hzW := hW.size
        simp only [World.size_alloc] at hzW
        exact all1_in l A n cap w.heap.size (w4.heap.size + 1) (4 - 1) lid J Jx W (hLW.out.step fun b hb => hW.block b (by omega)) (by omega) ((hXW.out.below hW (by omega)).cell 0) (by omega) hJ hJx hY h0
      case assign =>
        intro lid v W K hK
        gi_wp2
        exact hK
      case body =>
        rintro lid pre x v W W0 ⟨hp1, hp2, hci⟩ hpx hv hst
        have hCI := Lib.hid hci
        obtain ⟨⟨h1, h2, h3, h4⟩, h5, h6, h7, h8, h9⟩ := hci
        obtain ⟨j, hj⟩ : ∃ j, pre.length = j := ⟨_, rfl⟩
        rw [hj] at hp2 h1 hCI
        have HPX := Lib.hid hpx
        have HP1 := Lib.hid hp1
        have HJ := Lib.hid hj
        have c0 := h1.cell 0
        have c1 := h4.cell 0
        have c2 := h3.cell 0
        have f0 := h1.frozen 0
        by_cases hjq : j = q
        · subst hjq
          clear h1 h2 h3 h4 h5 h6 hpx hp1 hj hk4 hq hv hst
          gi_wp2
          exact ⟨Stays.refl _ _ _, rfl, HPX.out, by rw [List.length_append, HJ.out]; rfl, hCI.out⟩
        · have hjlt : j < q := by omega
          have hx := take_at hpx (by omega : pre.length < q)
          rw [hj] at hx
          have hjk : j < k4 := by rw [← hk4]; exact (List.getElem?_eq_some_iff.1 hx).1
          obtain ⟨b, off, cc, rfl, hb, ⟨vv, rfl, hvv⟩, hcc⟩ := h5.at (by decide) hx
          have c3 := hcc 0 vv rfl
          simp only [show tI.slice.sz = 1 from rfl, Nat.mul_one, Nat.add_zero] at c3
          have hvx : Sl tI W (fun _ => True) v x := (hv.inb.step fun b hb => hst.2 b (.inr (by omega)) hb.2).mono fun _ _ => trivial
          obtain ⟨Av1, cv1, rfl, -⟩ := hvx.form
          obtain ⟨Av2, cv2, rfl, -⟩ := hvv.form
          have HI := Lib.hid (ints_calls x Av1 x.length cv1 Av2 cv2 W hvx (hvv.mono fun _ _ => trivial))
          have hne : ((j : Int) == (q : Int)) = false := by simp; omega
          have hzW : z + 1 ≤ W.heap.size := h1.lt
          clear h1 h2 h3 h4 h5 h6 hpx hp1 hj hk4 hq hv hst hx hb hcc hvx hvv
          gi_wp2_with fail
          refine ⟨trivial, (CallsIn.inRound lid (callsIn_wide.2 HI.out)).mono ?_⟩
          rintro e w9 ⟨rfl, hb9⟩
          have hCI9 : CI w z w2.heap.size w4.heap.size q (some ⟨b, off, none⟩) k4 c4 ((allL l).take q) j w9 := hCI.out.below (hb9.mono hzW)
          have d0 := hCI9.1.1.cell 0
          have d1 := hCI9.1.1.frozen 0
          have hst9 : Hid (Stays w.heap.size (z + 1) W w9) := stays_of_below hb9
          have HC9 := Lib.hid hCI9
          clear hCI9 hb9 HI c0 c1 c2 c3 f0
          gi_wp2
          refine ⟨hst9.out.trans (stays_set _ _ (by omega) (by omega)), HPX.out, by rw [List.length_append, HJ.out]; simp; omega, ?_⟩
          rw [List.length_append, HJ.out]
          exact HC9.out.set (j + 1)
      case done =>
        rintro D W hD ⟨-, hp2, hci⟩ hK
        obtain rfl : k4 = (allL l).length := by rw [← hk4, List.length_take]; omega
        have hDl := (Array.getElem?_eq_some_iff.1 hK).1
        obtain ⟨⟨h1, h2, h3, h4⟩, h5, h6, h7, h8, h9⟩ := hci
        have c0 := h1.cell 0
        have c1 := h4.cell 0
        have HK := Lib.hid hK
        have H2 := Lib.hid h2
        have H6 := Lib.hid h6
        clear h1 h2 h3 h4 h5 h6 hK hk4 hq hp2
        gi_wp2_with fail
        go_wp2_with fail
        refine (lives_calls _).mono ?_
        rintro e w9 ⟨rfl, hb9⟩
        have hbk2 : Blk w9 w.heap.size #[.bool false] 4 := H2.out.below hb9 H2.out.lt
        have y2 := hbk2.cell 0
        have y3 := hbk2.frozen 0
        have hK9 : Hid (w9.heap[D]? = some (.deferred (some []))) := (hb9.block D hDl).trans HK.out
        have hB9 := Lib.hid (H6.out.trans (hb9.mono H6.out.size))
        have hne : w.heap.size ≠ D := by omega
        have Y2 := Lib.hid hbk2
        clear hb9 hbk2 c0 c1
        go_wp2
        exact end_mark Y2.out hK9.out hne hB9.out (by omega) rfl
      case stop =>
        rintro D c s W hD ⟨rfl, hp1, hp2, hci⟩ hK
        obtain rfl : k4 = q := by rw [← hk4, List.length_take]; have := pre_len hp1; omega
        have hDl := (Array.getElem?_eq_some_iff.1 hK).1
        obtain ⟨⟨h1, h2, h3, h4⟩, h5, h6, h7, h8, h9⟩ := hci
        have c0 := h1.cell 0
        have c1 := h4.cell 0
        have HK := Lib.hid hK
        have H2 := Lib.hid h2
        have H6 := Lib.hid h6
        clear h1 h2 h3 h4 h5 h6 hK hk4 hq hp2
        gi_wp2_with fail
        go_wp2_with fail
        refine (lives_calls _).mono ?_
        rintro e w9 ⟨rfl, hb9⟩
        have hbk2 : Blk w9 w.heap.size #[.bool false] 4 := H2.out.below hb9 H2.out.lt
        have y2 := hbk2.cell 0
        have y3 := hbk2.frozen 0
        have hK9 : Hid (w9.heap[D]? = some (.deferred (some []))) := (hb9.block D hDl).trans HK.out
        have hB9 := Lib.hid (H6.out.trans (hb9.mono H6.out.size))
        have hne : w.heap.size ≠ D := by omega
        have Y2 := Lib.hid hbk2
        clear hb9 hbk2 c0 c1
        go_wp2
        exact end_mark Y2.out hK9.out hne hB9.out (by omega) rfl
