import Derived.Test.YtidfogcilegloaaW26
/-! append inside a fence; what a range of a store has. -/
namespace Go.Proofs.Ytidfogcilegloaa
open Go.RowKit Go.Op Go.Shelf

section
variable {α : Type} {t : Ty α} {P : Program} {w0 W : World} {ops : Array Oper} {rest : List Oper} {o : Oper} {a : Act} {Q : Exit → Act → World → Prop} {ok : Nat → Prop} {l : List α}
/-- append(s, m...): onto a row of the call's own, a list that reads as m. -/
theorem wpIn_appSl {F : Fence} {n : Nat} {K : Act → World → Prop} (base : Nat) (s x : Operand) (T e : TypeId) (z : Value) (bytes : Nat)
    (ho : o.op = .call { callee := .builtin .append, args := #[s, x], argTypes := #[T, T] })
    (ht : P.underlying T = some (.slice e)) (hinfo : (P.info? e).map (fun i => (i.zero, i.size, i.bytes)) = some (some z, t.sz, bytes)) (hzs : z.cells.size = t.sz) (hsz : 0 < t.sz) (hb0 : 0 < bytes)
    {v u : Value} (hs : a.eval s = v) (hx : a.eval x = u) {m : List α} (HO : Own t W base e ok v l) (hu : SlX t W (fun b => ok b ∧ v.ownBlock ≠ some b) u m)
    (hB : Below base w0 W) (hbase : base ≤ W.heap.size) (hl : (l.length + m.length) * bytes ≤ 140737488355328)
    (h : ∀ v1 w1, Own t w1 base e ok v1 (l ++ m) → Below base w0 w1 → W.grownBy w1 v.ownBlock → (v1.ownBlock = v.ownBlock ∨ v1.ownBlock = some W.heap.size) → K (a.put o.dst v1) w1) : o.wpIn F n P a W K Q := by
  obtain ⟨i0, hi, hzz⟩ := Option.map_eq_some_iff.1 hinfo
  simp only [Prod.mk.injEq] at hzz
  obtain ⟨hz0, hz1, hz2⟩ := hzz
  have hO := HO
  obtain ⟨cs, h1, h2⟩ := HO
  have hlt := h1.lt
  obtain ⟨A, cap, ds, rfl, hcap, ⟨hcm, hnone⟩, hc, hat⟩ := hu
  cases A with
  | none =>
    obtain rfl := hnone rfl
    obtain rfl := List.eq_nil_of_length_eq_zero (Nat.le_zero.1 hcap)
    have hrun := run_append_owned_none (P := P) (w := W) base T o.type e i0 t.sz ht hi v l.length cs h1
    unfold Oper.wpIn
    refine ⟨by simp [Oper.about, ho, resolve, Target.leads, Sem.run_pure], ?_⟩
    rw [Oper.semAt_plain F _ _ (by rw [ho]; intro c hc'; cases hc')]
    simp [execOp, ho, resolve, invoke, builtin, hs, hx, hrun, Result.andThen]
    exact (h v W (by rw [List.append_nil]; exact hO) hB (by exact ⟨rfl, rfl, rfl, Nat.le_refl _, fun _ _ _ => rfl⟩) (.inl rfl))
  | some ad =>
    have hlen : l.length + m.length ≤ 140737488355328 := Nat.le_trans (Nat.le_mul_of_pos_right _ hb0) hl
    have hnews : ∀ j u, ds[j]? = some u → W.cell? (ad.add j) = some u := by
      rcases hat with rfl | ⟨b, off, e1, _, hcell⟩
      · intro j u hj; simp at hj
      · injection e1 with e1
        subst e1
        intro j u hj
        have := hcell j u hj
        rwa [show (⟨b, off, none⟩ : Addr).add j = ⟨b, off + j, none⟩ by unfold Addr.add; split <;> simp_all]
    obtain ⟨v1, w1, hr, hown, hg, _, hat1⟩ := run_append_own_at (P := P) W base T o.type e i0 z t.sz bytes ht hi hz0 hz1 hz2 hzs hsz v l.length cs h1 ad m.length cap ds hc.len hnews hc.one' (by simp only [maxLen]; omega) hl hbase
    unfold Oper.wpIn
    refine ⟨by simp [Oper.about, ho, resolve, Target.leads, Sem.run_pure], ?_⟩
    rw [Oper.semAt_plain F _ _ (by rw [ho]; intro c hc'; cases hc')]
    unfold execOp
    simp only [ho, resolve, invoke, builtin, Sem.run_bind, Sem.run_pure, Result.andThen_ok, List.map_toArray, List.map_cons, List.map_nil, hs, hx, hr]
    refine h v1 w1 ⟨cs ++ ds, by rw [List.length_append]; exact hown, ?_⟩ (below_own hB hbase hg fun b hb => (hlt b hb).1) hg hat1
    have hap : Cells t W (fun b => ok b ∧ v.ownBlock ≠ some b) (l ++ m) (cs ++ ds) := h2.append hc
    refine (hap.inb.step fun b hb => hg.block b hb.2 fun e => hb.1.2 e.symm).mono fun b hb => ⟨hb.1.1, fun e => ?_⟩
    rcases hat1 with h3 | h3
    · exact hb.1.2 (h3.symm.trans e)
    · rw [h3] at e
      injection e with e
      omega

/-- append(s, x): one element, whose cells have just been laid in a block of their own. -/
theorem wpListIn_app1 {F : Fence} {n : Nat} (base : Nat) (hgd : o.guard = none) (s x : Operand) (T e : TypeId) (z : Value) (bytes : Nat)
    (ho : o.op = .call { callee := .builtin .append, args := #[s, x], argTypes := #[T, T] })
    (ht : P.underlying T = some (.slice e)) (hinfo : (P.info? e).map (fun i => (i.zero, i.size, i.bytes)) = some (some z, t.sz, bytes)) (hzs : z.cells.size = t.sz) (hsz : 0 < t.sz) (hb0 : 0 < bytes)
    {v : Value} (hs : a.eval s = v) {cs : List Value} {g : Nat} (hgz : W.heap.size = g) (hx : a.eval x = .slice (some ⟨g, 0, none⟩) 1 1) {y : α} (HO : Own t W base e ok v l) (hK : t.K W (fun b => ok b ∧ v.ownBlock ≠ some b) y cs)
    (hB : Below base w0 W) (hbase : base ≤ W.heap.size) (hl : (l.length + 1) * bytes ≤ 140737488355328)
    (h : ∀ v1 w1, Own t w1 base e ok v1 (l ++ [y]) → Below base w0 w1 → W.grownBy w1 v.ownBlock → (v1.ownBlock = v.ownBlock ∨ (∃ b, v1.ownBlock = some b ∧ W.heap.size ≤ b)) → wpListIn F n P ops Q rest (a.put o.dst v1) w1) :
    wpListIn F n P ops Q (o :: rest) a (W.alloc (.cells cs.toArray e)) := by
  subst hgz
  have hbl : Below W.heap.size W (W.alloc (.cells cs.toArray e)) := (Below.refl _ _).alloc (Nat.le_refl _) _
  have hK' : Cells t (W.alloc (.cells cs.toArray e)) (fun b => ok b ∧ v.ownBlock ≠ some b) [y] cs :=
    Cells.one ((t.step (t.inb hK) fun b hb => hbl.block b hb.2) |> fun k => t.mono k fun b hb => hb.1)
  refine wpListIn_plain hgd fun KK hKK => wpIn_appSl (t := t) (ok := ok) (m := [y]) (u := .slice (some ⟨W.heap.size, 0, none⟩) 1 1) base s x T e z bytes ho ht hinfo hzs hsz hb0 hs hx (HO.alloc _)
    ⟨_, 1, cs, rfl, Nat.le_refl _, ⟨by omega, fun h => by cases h⟩, hK', .inr ⟨W.heap.size, 0, rfl, trivial, fun j u hj => ?_⟩⟩ (hB.alloc hbase _) (by simp; omega) (by simpa using hl) ?_
  · rw [cell_of_row (W.alloc (.cells cs.toArray e)) W.heap.size (0 + j) cs.toArray e (0, 0) (heap_alloc_new W _)]
    simpa using hj
  · intro v1 w1 hown hB1 hg hat
    refine hKK _ _ (h v1 w1 hown hB1 (World.grownBy.trans (World.grownBy_alloc W _ _) hg) ?_)
    · rcases hat with h1 | h1
      · exact .inl h1
      · exact .inr ⟨_, h1, by simp⟩
end

/-! ### Turns -/
theorem Turn.kept {Y : Nat → Prop} {z : Nat} {A B : World} (h : Turn z A B) (hz : z ≤ A.heap.size) : Kept Y z A B := ⟨h.size, fun b hb _ => h.block b (by omega) (by omega) (by omega)⟩
theorem Turn.below {z m : Nat} {A B : World} (h : Turn z A B) (hm : m ≤ z) (hz : z ≤ A.heap.size) : Below m A B := ⟨h.os, h.tape, h.output, h.size, fun b hb => h.block b (by omega) (by omega) (by omega)⟩
theorem Own.turn {α : Type} {t : Ty α} {w w' : World} {e z : Nat} {v : Value} {l : List α} (h : Own t w (z + 2) e none_ v l) (k : Turn z w w') : Own t w' (z + 2) e none_ v l := by
  have hlo := fun b hb => h.lo (b := b) hb
  obtain ⟨cs, ⟨e1, hr⟩, hc⟩ := h
  refine ⟨cs, ⟨e1, ?_⟩, hc.step fun b hb => hb.1.elim⟩
  rcases hr with hr | ⟨g, cap, rest, e2, hb, hB, r⟩
  · exact .inl hr
  · subst e2
    have := hlo g rfl
    exact .inr ⟨g, cap, rest, rfl, hb, (k.block g this.2 (by omega) (by omega)).trans hB, r⟩

/-! ### What is told of a range -/
theorem keysIn_eq {ks : List ByteArray} (hr : ks.Pairwise fun a b => klt a b = true) (x y : ByteArray) : ks.filter (inR x y) = keysIn ks x y := by
  unfold keysIn lowS
  induction ks with
  | nil => rfl
  | cons k ks ih =>
    obtain ⟨h1, h2⟩ := List.pairwise_cons.1 hr
    rw [List.filter_cons, List.takeWhile_cons]
    cases hk : klt k x
    · -- from here on all are at or behind x
      have hge : ∀ a ∈ k :: ks, klt a x = false := fun a ha => by
        rcases List.mem_cons.1 ha with rfl | ha
        · exact hk
        · cases hax : klt a x
          · rfl
          · have := klt_trans (h1 a ha) hax; rw [hk] at this; cases this
      have hall : ∀ (l : List ByteArray), (∀ a ∈ l, klt a x = false) → (l.Pairwise fun a b => klt a b = true) → l.filter (inR x y) = l.takeWhile fun k => klt k y := by
        intro l
        induction l with
        | nil => intro _ _; rfl
        | cons a l ihl =>
          intro hg hp
          obtain ⟨p1, p2⟩ := List.pairwise_cons.1 hp
          rw [List.filter_cons, List.takeWhile_cons, inR, hg a (by simp)]
          cases hay : klt a y
          · simp only [Bool.not_false, Bool.true_and, Bool.false_eq_true, if_false]
            rw [List.filter_eq_nil_iff]
            intro b hb
            have : klt b y = false := by
              cases hby : klt b y
              · rfl
              · have := klt_trans (p1 b hb) hby; rw [hay] at this; cases this
            simp [inR, this]
          · simp only [Bool.not_false, Bool.true_and, if_true]
            rw [ihl (fun b hb => hg b (List.mem_cons_of_mem _ hb)) p2]
      have := hall (k :: ks) hge hr
      rw [List.filter_cons] at this
      simpa using this
    · simp only [if_true, List.length_cons, List.drop_succ_cons]
      rw [← ih h2]
      simp [inR, hk]
theorem filterMap_same {α β : Type} {f g : α → Option β} : ∀ {l : List α}, (∀ a ∈ l, f a = g a) → l.filterMap f = l.filterMap g
  | [], _ => rfl
  | a :: l, h => by rw [List.filterMap_cons, List.filterMap_cons, h a (by simp), filterMap_same (l := l) fun b hb => h b (List.mem_cons_of_mem _ hb)]
def outs (E : List Ent) (n : Int) (pre : List (ByteArray × Value)) : List Pair := pre.filterMap fun p => (get (chainOf E p.1) n).map fun v => ⟨p.1, v.val, false⟩
theorem filterMap_keys {β : Type} {E : List Ent} (x y : ByteArray) (f : ByteArray → Option β) : (E.filterMap fun e => if inR x y e.key then f e.key else none) = ((E.map (·.key)).filter (inR x y)).filterMap f := by
  induction E with
  | nil => rfl
  | cons e E ih =>
    rw [List.map_cons, List.filter_cons, List.filterMap_cons]
    cases h : inR x y e.key
    · simp [ih]
    · simp only [if_true, List.filterMap_cons, ih]
theorem scan_eq {E : List Ent} (hr : Rising E) (x y : ByteArray) (n : Int) (V : List (ByteArray × Value)) : scan E x y n = outs E n (selV (E.map (·.key)) V x y) := by
  have hp : (E.map (·.key)).Pairwise fun a b => klt a b = true := List.pairwise_map.2 hr
  unfold outs selV scan
  rw [List.filterMap_map, ← keysIn_eq hp]
  have h1 : E.filterMap (pick x y n) = E.filterMap fun e => if inR x y e.key then (fun k => (get (chainOf E k) n).map fun v => (⟨k, v.val, false⟩ : Pair)) e.key else none := by
    refine filterMap_same fun e he => ?_
    unfold pick
    simp only [chainOf_mem hr he]
  rw [h1, filterMap_keys x y (fun k => (get (chainOf E k) n).map fun v => (⟨k, v.val, false⟩ : Pair))]
  rfl
theorem within_eq {E : List Ent} (hr : Rising E) (x y : ByteArray) (n : Int) (V : List (ByteArray × Value)) : within E x y n = (selV (E.map (·.key)) V x y).any fun p => decide (0 < since (chainOf E p.1) n) := by
  have hp : (E.map (·.key)).Pairwise fun a b => klt a b = true := List.pairwise_map.2 hr
  unfold within selV
  rw [List.any_map, ← keysIn_eq hp, Bool.eq_iff_iff, List.any_eq_true, List.any_eq_true]
  constructor
  · rintro ⟨e, he, h⟩
    rw [Bool.and_eq_true] at h
    exact ⟨e.key, List.mem_filter.2 ⟨List.mem_map.2 ⟨e, he, rfl⟩, h.1⟩, by simpa [chainOf_mem hr he] using h.2⟩
  · rintro ⟨k, hk, h⟩
    obtain ⟨h1, h2⟩ := List.mem_filter.1 hk
    obtain ⟨e, he, rfl⟩ := List.mem_map.1 h1
    exact ⟨e, he, by rw [Bool.and_eq_true]; exact ⟨h2, by simpa [chainOf_mem hr he] using h⟩⟩

set_option maxRecDepth 100000 in
theorem between_calls (pb : Nat) (x y : ByteArray) (w : World) : Calls Try.prog 43 #[.pointer (some ⟨pb, 0, none⟩), .string x, .string y] w fun e w' =>
    e = .returned (.func (.func 62) #[] #[.pointer (some ⟨w.heap.size, 0, none⟩), .pointer (some ⟨w.heap.size + 1, 0, none⟩), .pointer (some ⟨w.heap.size + 2, 0, none⟩)]) ∧ Below w.heap.size w w' ∧ w'.heap.size = w.heap.size + 3 ∧
    w'.cell? ⟨w.heap.size, 0, none⟩ = some (.pointer (some ⟨pb, 0, none⟩)) ∧ w'.cell? ⟨w.heap.size + 1, 0, none⟩ = some (.string x) ∧ w'.cell? ⟨w.heap.size + 2, 0, none⟩ = some (.string y) := by
  obtain ⟨w1, hw1⟩ : ∃ w1, w.alloc (.cells #[.pointer (some ⟨pb, 0, none⟩)] 23) = w1 := ⟨_, rfl⟩
  obtain ⟨w2, hw2⟩ : ∃ w2, w1.alloc (.cells #[.string x] 9) = w2 := ⟨_, rfl⟩
  obtain ⟨w3, hw3⟩ : ∃ w3, w2.alloc (.cells #[.string y] 9) = w3 := ⟨_, rfl⟩
  have z1 : w1.heap.size = w.heap.size + 1 := by rw [← hw1]; simp
  have z2 : w2.heap.size = w.heap.size + 2 := by rw [← hw2]; simp [z1]
  have z3 : w3.heap.size = w.heap.size + 3 := by rw [← hw3]; simp [z2]
  have b1 : Below w.heap.size w w1 := by rw [← hw1]; exact (Below.refl _ _).alloc (Nat.le_refl _) _
  have b2 : Below w1.heap.size w1 w2 := by rw [← hw2]; exact (Below.refl _ _).alloc (Nat.le_refl _) _
  have b3 : Below w2.heap.size w2 w3 := by rw [← hw3]; exact (Below.refl _ _).alloc (Nat.le_refl _) _
  have k1 : Blk w1 w.heap.size #[.pointer (some ⟨pb, 0, none⟩)] 23 := by rw [← hw1]; exact Blk.new _ _ _
  have k2 : Blk w2 w1.heap.size #[.string x] 9 := by rw [← hw2]; exact Blk.new _ _ _
  have k3 : Blk w3 w2.heap.size #[.string y] 9 := by rw [← hw3]; exact Blk.new _ _ _
  have H : Hid (Below w.heap.size w w3 ∧ w3.heap.size = w.heap.size + 3 ∧ w3.cell? ⟨w.heap.size, 0, none⟩ = some (.pointer (some ⟨pb, 0, none⟩)) ∧ w3.cell? ⟨w.heap.size + 1, 0, none⟩ = some (.string x) ∧ w3.cell? ⟨w.heap.size + 2, 0, none⟩ = some (.string y)) := by
    refine ⟨(b1.trans (b2.mono (by omega))).trans (b3.mono (by omega)), z3, ?_, ?_, ?_⟩
    · exact ((k1.below b2 (by omega)).below b3 (by omega)).cell 0
    · rw [← z1]; exact (k2.below b3 (by omega)).cell 0
    · rw [← z2]; exact k3.cell 0
  subst hw1 hw2 hw3
  clear z1 z2 z3 b1 b2 b3 k1 k2 k3
  go_enter Try.func43, Try.ntmps43
  go_wp2
  go_ret
  exact ⟨rfl, H.out⟩
end Go.Proofs.Ytidfogcilegloaa
