import Derived.Test.YtnleldogmogkgaaW42
/-! What the document's put turns in memory. -/
namespace Go.Proofs.Ytnleldogmogkgaa
open Go.RowKit Go.Op

theorem drop_cons {α : Type} {l : List α} {i : Nat} {x : α} (h : l[i]? = some x) : l.drop i = x :: l.drop (i + 1) := by
  rw [List.drop_eq_getElem?_toList_append, h]; rfl
theorem low_cons (x : Ent) (t : List Ent) (k : ByteArray) : low (x :: t) k = if klt x.key k then low t k + 1 else 0 := by
  unfold low
  rw [List.takeWhile_cons]
  cases klt x.key k <;> simp
theorem low_le (l : List Ent) (k : ByteArray) : low l k ≤ l.length := (List.takeWhile_prefix _).length_le
theorem low_drop {l : List Ent} {k : ByteArray} {j : Nat} {x : Ent} (hj : j + low (l.drop j) k = low l k) (hx : l[j]? = some x) :
    (klt x.key k = true → (j + 1) + low (l.drop (j + 1)) k = low l k) ∧ (klt x.key k = false → low l k = j) := by
  rw [drop_cons hx, low_cons] at hj
  constructor
  · intro h; rw [h, if_pos rfl] at hj; omega
  · intro h; rw [h] at hj; simp at hj; omega
/-- What stands where a key would. -/
theorem at_low {l : List Ent} (hr : Rising l) (k : ByteArray) : hasK l k = (match l[low l k]? with | some q => q.key.toList == k.toList | none => false) := by
  obtain ⟨A, B, e, hA, h1, h2⟩ := parts hr k
  have hg : l[low l k]? = B[0]? := by
    rw [← hA]; conv => lhs; rw [e]
    rw [List.getElem?_append_right (Nat.le_refl _)]; simp
  rw [hg]
  rcases h2 with ⟨h2, h3⟩ | ⟨h2, q, C, rfl, h3, h4⟩
  · rw [h2]
    cases B with
    | nil => rfl
    | cons q B => symm; show (q.key.toList == k.toList) = false; rw [beq_key]; simpa using (klt_ne (h3 q (by simp))).symm
  · rw [h2]; symm; show (q.key.toList == k.toList) = true; rw [beq_key, h3]; simp


section
variable {α : Type} {t : Ty α} {w : World} {ok : Nat → Prop} {A : Option Addr} {n cap k : Nat} {l : List α}
theorem Own.slx {base e : Nat} {v : Value} (h : Own t w base e ok v l) : SlX t w (fun b => ok b ∧ v.ownBlock ≠ some b) v l := by
  obtain ⟨cs, h1, h2⟩ := h
  have hlen := h2.len
  have hcells := fun g hg => World.ownsRow.cells h1 (g := g) hg
  rcases h1.2 with ⟨rfl, h0⟩ | ⟨g, cap, cur, rfl, hb, hh, hn, hc, _⟩
  · obtain rfl := List.eq_nil_of_length_eq_zero h0
    obtain rfl : cs = [] := h2
    exact ⟨none, 0, [], rfl, Nat.le_refl _, ⟨by omega, fun _ => rfl⟩, rfl, .inl rfl⟩
  · refine ⟨_, cap, cs, rfl, hn, ⟨by simpa [maxLen] using hc, fun h => by cases h⟩, h2, .inr ⟨g, 0, rfl, trivial, fun j u hj => ?_⟩⟩
    have := hcells g rfl j u hj
    rwa [show (⟨g, 0, none⟩ : Addr).add j = ⟨g, 0 + j, none⟩ by unfold Addr.add; split <;> simp_all] at this
theorem SlX.mono {ok' : Nat → Prop} {v : Value} (h : SlX t w ok v l) (hm : ∀ b, ok b → ok' b) : SlX t w ok' v l := by
  obtain ⟨A, cap, cs, e, h1, h2, h3, h4⟩ := h
  exact ⟨A, cap, cs, e, h1, h2, h3.mono hm, h4⟩
theorem SlX.length (h : SlX t w ok (.slice A n cap) l) : l.length = n ∧ n ≤ cap ∧ cap ≤ 9223372036854775807 ∧ (A = none → cap = 0) := by
  obtain ⟨A', cap', cs, e, h1, h2, _⟩ := h
  injection e with e1 e2 e3
  subst e1 e2 e3
  exact ⟨rfl, h1, h2.1, h2.2⟩
theorem SlX.below {w' : World} {v : Value} (h : SlX t w ok v l) (hb : Below w.heap.size w w') : SlX t w' ok v l := by
  obtain ⟨A, cap, cs, e, h1, h2, h3, h4⟩ := h
  exact ⟨A, cap, cs, e, h1, h2, (h3.inb.step fun b hk => hb.block b hk.2).mono fun b hk => hk.1, (h4.inb.step fun b hk => hb.block b hk.2).mono fun b hk => hk.1⟩
theorem SlX.clip (h : SlX t w ok (.slice A n cap) l) (hk : k ≤ n) : SlX t w ok (.slice A k k) (l.take k) := by
  obtain ⟨A', cap', cs, e, h1, h2, h3, h4⟩ := h
  injection e with e1 e2 e3
  subst e1 e2 e3
  obtain ⟨c, d, rfl, k1, k2⟩ := h3.take k
  have hlen : (l.take k).length = k := by simp; omega
  refine ⟨A, k, c, by rw [hlen], by omega, ⟨by omega, fun ha => by have := h2.2 ha; omega⟩, k1, ?_⟩
  rcases h4 with h4 | ⟨b, off, e, hb, hc⟩
  · exact .inl (List.append_eq_nil_iff.1 h4).1
  · exact .inr ⟨b, off, e, hb, fun j u hj => hc j u (by rw [List.getElem?_append_left (List.getElem?_eq_some_iff.1 hj).1]; exact hj)⟩
theorem SlX.drop {b off : Nat} (h : SlX t w ok (.slice (some ⟨b, off, none⟩) n cap) l) (hk : k ≤ n) : SlX t w ok (.slice (some ⟨b, off + k * t.sz, none⟩) (n - k) (cap - k)) (l.drop k) := by
  obtain ⟨A', cap', cs, e, h1, h2, h3, h4⟩ := h
  injection e with e1 e2 e3
  subst e1 e2 e3
  obtain ⟨c, d, rfl, k1, k2⟩ := h3.take k
  have hlen : (l.drop k).length = l.length - k := by simp
  have hc1 := k1.len
  rw [List.length_take, Nat.min_eq_left hk] at hc1
  refine ⟨_, _, d, by rw [hlen], by omega, ⟨by omega, fun h => by cases h⟩, k2, ?_⟩
  rcases h4 with h4 | ⟨b', off', e, hb, hc⟩
  · exact .inl (List.append_eq_nil_iff.1 h4).2
  · injection e with e
    injection e with e1 e2 e3
    subst e1 e2
    exact .inr ⟨b, _, rfl, hb, fun j u hj => by
      have := hc (k * t.sz + j) u (by rw [List.getElem?_append_right (by omega), show k * t.sz + j - c.length = j by omega]; exact hj)
      rwa [show off + k * t.sz + j = off + (k * t.sz + j) by omega]⟩
theorem SlX.nil (t : Ty α) (w : World) (ok : Nat → Prop) (A : Option Addr) (cap : Nat) (hc : cap ≤ 9223372036854775807) (hA : A = none → cap = 0) : SlX t w ok (.slice A 0 cap) [] := ⟨A, cap, [], rfl, Nat.zero_le _, ⟨hc, hA⟩, rfl, .inl rfl⟩
/-- s[k:] -/
theorem run_slice_fromX {P : Program} {T e : TypeId} (hu : P.underlying T = some (.slice e)) (hs : (P.info? e).map (·.size) = some t.sz) (hs0 : 0 < t.sz) (h : SlX t w ok (.slice A n cap) l) (hk : k ≤ n) :
    ∃ B c2, (∀ W, (Instr.slice T (.slice A n cap) (some (.int .i64 (k : Int))) none none).run P W = .ok (.slice B (n - k) c2) W) ∧ SlX t w ok (.slice B (n - k) c2) (l.drop k) := by
  obtain ⟨hl, hc, hm, hn⟩ := h.length
  cases A with
  | none =>
    have h0 := hn rfl
    refine ⟨none, cap - k, fun W => ?_, ?_⟩
    · rw [run_slice_lo hu hs _ hk]; simp
    · rw [List.drop_of_length_le (by omega), show n - k = 0 by omega]
      exact SlX.nil _ _ _ _ _ (by omega) (fun _ => by omega)
  | some ad =>
    by_cases hkc : cap = k
    · refine ⟨some ad, cap - k, fun W => ?_, ?_⟩
      · rw [run_slice_lo hu hs _ hk, if_pos hkc]
      · rw [List.drop_of_length_le (by omega), show n - k = 0 by omega]
        exact SlX.nil _ _ _ _ _ (by omega) (by intro h; cases h)
    · by_cases h0 : n = 0
      · subst h0
        obtain rfl : k = 0 := by omega
        refine ⟨(some ad).map (·.add (0 * t.sz)), cap - 0, fun W => ?_, ?_⟩
        · rw [run_slice_lo hu hs _ hk, if_neg hkc]
        · rw [List.drop_of_length_le (by omega)]
          exact SlX.nil _ _ _ _ _ (by omega) (by intro h; cases h)
      · obtain ⟨b, off, rfl⟩ : ∃ b off, ad = ⟨b, off, none⟩ := by
          obtain ⟨A', cap', cs, e, h1, h2, h3, h4⟩ := h
          injection e with e1 e2 e3
          subst e1
          rcases h4 with rfl | ⟨b, off, e, _⟩
          · have := h3.len
            simp only [List.length_nil] at this
            rcases Nat.mul_eq_zero.1 this.symm with h5 | h5
            · omega
            · omega
          · injection e with e
            exact ⟨b, off, e⟩
        refine ⟨some ⟨b, off + k * t.sz, none⟩, cap - k, fun W => ?_, h.drop hk⟩
        rw [run_slice_lo hu hs _ hk, if_neg hkc]
        simp only [Option.map_some, Addr.add]
        split
        · next h0 => rw [h0]; rfl
        · rfl
end
theorem wp_appGrowX {α : Type} {t : Ty α} {P : Program} {W : World} {o : Oper} {a : Act} {Q : Exit → Act → World → Prop} {ok : Nat → Prop} {l m : List α} {K : Act → World → Prop} (s x : Operand) (T e : TypeId) (z : Value) (bytes : Nat)
    (ho : o.op = .call { callee := .builtin .append, args := #[s, x], argTypes := #[T, T] })
    (ht : P.underlying T = some (.slice e)) (hinfo : (P.info? e).map (fun i => (i.zero, i.size, i.bytes)) = some (some z, t.sz, bytes)) (hzs : z.cells.size = t.sz) (hsz : 0 < t.sz) (hb0 : 0 < bytes)
    {A B : Option Addr} {n k c : Nat} (hs : a.eval s = .slice A n n) (hx : a.eval x = .slice B k c) (hl : SlX t W ok (.slice A n n) l) (hm : SlX t W ok (.slice B k c) m) (hk : 0 < k) (hlen : (n + k) * bytes ≤ 140737488355328)
    (h : ∀ v1 w1, Own t w1 W.heap.size e ok v1 (l ++ m) → Below W.heap.size W w1 → K (a.put o.dst v1) w1) : o.wp P a W K Q := by
  obtain ⟨i0, hi, hzz⟩ := Option.map_eq_some_iff.1 hinfo
  simp only [Prod.mk.injEq] at hzz
  obtain ⟨hz0, hz1, hz2⟩ := hzz
  obtain ⟨A1, c1, olds, e1, -, hA, ho1, ho2⟩ := hl
  obtain ⟨B1, c2, news, e2, -, hB, hn1, hn2⟩ := hm
  injection e1 with a1 a2 a3
  injection e2 with b1 b2 b3
  subst a1 b1
  subst a3
  subst b3
  have hmlen : n + k ≤ 140737488355328 := Nat.le_trans (Nat.le_mul_of_pos_right _ hb0) hlen
  have hol := ho1.len
  have hnl := hn1.len
  rw [← a2] at hol
  rw [← b2] at hnl
  have hat : ∀ {C : Option Addr} {xs : List Value} {r d : Nat} (W' : World), xs.length = r * t.sz → At W (fun _ => True) C xs → W'.heap = W.heap → (Builtin.firstCells t.sz r (.slice C r d)).run P W' = .ok xs.toArray W' := by
    intro C xs r d W' h1 h2 hW
    rcases h2 with rfl | ⟨b, off, rfl, -, hc⟩
    · obtain rfl : r = 0 := by
        rcases Nat.eq_zero_or_pos r with h | h
        · exact h
        · have := Nat.mul_pos h hsz; simp at h1; omega
      cases C with
      | none => exact run_firstCells_none W' t.sz 0 0 d
      | some ad => exact run_firstCells_some W' t.sz 0 ad 0 d [] (by simp) (fun j u hj => by simp at hj)
    · refine run_firstCells_some W' t.sz r ⟨b, off, none⟩ r d xs h1 fun j u hj => ?_
      rw [show (⟨b, off, none⟩ : Addr).add j = ⟨b, off + j, none⟩ by unfold Addr.add; split <;> simp_all]
      exact (World.cell?_of_block (w := W) (a := ⟨b, off + j, none⟩) (by rw [hW])).trans (hc j u hj)
  have hsrc : Src P i0.size T (.slice B k c) k news W := by
    rw [hz1]
    exact ⟨.inl ⟨e, ht⟩, fun _ => rfl, hat W hnl hn2 rfl, hat W.drew hnl hn2 rfl, hnl, hn1.one'⟩
  have hrun := run_append_grow_src (P := P) W T T o.type e i0 z ht hi hz0 A n n olds (by rw [hz1]; exact hat W.drew hol ho2 rfl) (.slice B k c) k news hsrc (by omega) (by omega) (by rw [hz2]; exact growslice_fits (by omega) hlen)
  have hge := grownCap_ge W (n + k) n e
  have hcm := grownCap_le_maxLen W (n + k) n e (by simp only [maxLen]; omega)
  have hL : (olds ++ news).length = (n + k) * t.sz := by rw [List.length_append, hol, hnl, Nat.add_mul]
  unfold Oper.wp execOp
  simp only [ho, resolve, invoke, builtin, Sem.run_bind, Sem.run_pure, Result.andThen_ok, List.map_toArray, List.map_cons, List.map_nil, hs, hx, hrun]
  have hbw : Below W.heap.size W (W.drew.alloc (.cells ((olds ++ news).toArray ++ Builtin.zeroCells z.cells (grownCap W (n + k) n e - (n + k))) e)) := (Below.refl W.heap.size W).drew.alloc (Nat.le_refl _) _
  refine h _ _ ⟨olds ++ news, ?_, ?_⟩ hbw
  · rw [show (l ++ m).length = n + k by rw [List.length_append, ← a2, ← b2]]
    refine ⟨hL, .inr ⟨W.heap.size, _, _, rfl, Nat.le_refl _, heap_alloc_new W.drew _, hge, hcm, ?_, ?_⟩⟩
    · simp only [Array.size_append, List.size_toArray, size_zeroCells, hzs, hL, ← Nat.add_mul]
      congr 1
      omega
    · simp only [Array.toList_append]
      rw [← hL]
      exact List.take_left
  · have hap := ho1.append hn1
    refine (hap.inb.step fun b hb => hbw.block b hb.2).mono fun b hb => ⟨hb.1, fun e => ?_⟩
    have e : some W.heap.size = some b := e
    injection e with e
    have := hb.2
    omega
theorem step_appGrowX {α : Type} {t : Ty α} {P : Program} {W : World} {o : Oper} {ops : Array Oper} {a : Act} {Q : Exit → Act → World → Prop} {ok : Nat → Prop} {l m : List α} {K : Act → World → Prop} {E : Prop} (hgd : o.guard = none) (s x : Operand) (T e : TypeId) (z : Value) (bytes : Nat)
    (ho : o.op = .call { callee := .builtin .append, args := #[s, x], argTypes := #[T, T] })
    (ht : P.underlying T = some (.slice e)) (hinfo : (P.info? e).map (fun i => (i.zero, i.size, i.bytes)) = some (some z, t.sz, bytes)) (hzs : z.cells.size = t.sz) (hsz : 0 < t.sz) (hb0 : 0 < bytes)
    {A B : Option Addr} {n k c : Nat} (hs : a.eval s = .slice A n n) (hx : a.eval x = .slice B k c) (hl : SlX t W ok (.slice A n n) l) (hm : SlX t W ok (.slice B k c) m) (hk : 0 < k) (hlen : (n + k) * bytes ≤ 140737488355328)
    (h : ∀ v1 w1, Own t w1 W.heap.size e ok v1 (l ++ m) → Below W.heap.size W w1 → K (a.put o.dst v1) w1) :
    if Region.wanted o (yielded ops a.tmps) = true then Oper.wp P o a W K Q else E := by
  have hw : Region.wanted o (yielded ops a.tmps) = true := by simp [Region.wanted, hgd]
  rw [if_pos hw]
  exact wp_appGrowX s x T e z bytes ho ht hinfo hzs hsz hb0 hs hx hl hm hk hlen h
theorem run_slice_mid {P : Program} {T e : TypeId} {sz : Nat} (hu : P.underlying T = some (.slice e)) (hs : (P.info? e).map (·.size) = some sz) (A : Option Addr) {n cap k : Nat} (hk : k ≤ cap) (W : World) :
    (Instr.slice T (.slice A n cap) none (some (.int .i64 (k : Int))) (some (.int .i64 (k : Int)))).run P W = .ok (.slice A k k) W := by
  have hb : (Instr.sliceBounds true n cap none (some (.int .i64 (k : Int))) (some (.int .i64 (k : Int)))).run P W = .ok (0, k, k) W := by
    simp [Instr.sliceBounds, run_sliceBound, hk]
  simp only [Instr.slice]
  simp [run_underlying hu, hb, info_size hs]
  cases A <;> simp [Addr.add]

/-! ### The document's store amid an install -/
structure Rsx (w : World) (rb : Nat) (v : Value) (X : List Nat) (E : List Ent) (l f : Int) : Prop where
  blk : Blk w rb #[v, .int .i64 l, .int .i64 f] 53
  row : Own tKey w 0 88 (· ∉ X) v E
  inP : rb ∈ X
  inK : ∀ b, v.ownBlock = some b → b ∈ X
  lt : ∀ b ∈ X, b < w.heap.size
  nP : v.ownBlock ≠ some rb
section
variable {w w' : World} {rb : Nat} {v : Value} {X : List Nat} {S : Sto} {E : List Ent} {l f : Int}
theorem Rst.x (h : Rst w rb v X S) : Rsx w rb v X S.ents S.last S.floor := ⟨h.blk, h.row, h.inP, h.inK, h.lt, h.nP⟩
theorem Rsx.r (h : Rsx w rb v X E l f) (h1 : Sto.Ok ⟨E, l, f⟩) (h2 : E.length ≤ 100000) (h3 : l ≤ 1000000) : Rst w rb v X ⟨E, l, f⟩ := ⟨h.blk, h.row, h1, h2, h3, h.inP, h.inK, h.lt, h.nP⟩
theorem Rsx.far (h : Rsx w rb v X E l f) : Sl tKey w (fun b => b ≠ rb ∧ b < w.heap.size) v E :=
  h.row.sl2.inb.mono fun b hb => ⟨fun e => by
    rcases hb.1 with h1 | h1
    · exact h1 (by rw [e]; exact h.inP)
    · exact h.nP (by rw [← e]; exact h1), hb.2⟩
theorem Rsx.below (h : Rsx w rb v X E l f) (hb : Below w.heap.size w w') : Rsx w' rb v X E l f :=
  ⟨h.blk.below hb h.blk.lt, h.row.below hb, h.inP, h.inK, fun b hm => Nat.lt_of_lt_of_le (h.lt b hm) hb.size, h.nP⟩
end
theorem cells_setKey {w : World} {ok : Nat → Prop} : ∀ {l : List Ent} {cs : List Value} {i : Nat} {e : Ent} {P : Option Addr} {m c : Nat} {ch : List Ver}, Cells tKey w ok l cs → l[i]? = some e → Sl tVer w ok (.slice P m c) ch → Cells tKey w ok (l.set i ⟨e.key, ch⟩) (cs.set (i * 2 + 1) (.slice P m c))
  | [], _, _, _, _, _, _, _, _, hi, _ => by simp at hi
  | x :: l, _, 0, e, P, m, c, ch, ⟨a, d, rfl, hk, hd⟩, hi, hs => by
    obtain rfl : x = e := by simpa using hi
    obtain ⟨P', m', c', rfl, -⟩ := key_form hk
    exact ⟨[.string x.key, .slice P m c], d, rfl, key_mk (e := ⟨x.key, ch⟩) hs, hd⟩
  | x :: l, _, i + 1, e, P, m, c, ch, ⟨a, d, rfl, hk, hd⟩, hi, hs => by
    obtain ⟨P', m', c', rfl, -⟩ := key_form hk
    have h1 := cells_setKey hd (i := i) (by simpa using hi) hs
    refine ⟨_, _, ?_, hk, h1⟩
    rw [show (i + 1) * 2 + 1 = i * 2 + 1 + 2 by omega]
    rfl
/-- One key's versions are others. -/
theorem Own.setKey {w : World} {base : Nat} {ok : Nat → Prop} {g n cap i : Nat} {E : List Ent} {e : Ent} {P : Option Addr} {m c : Nat} {ch : List Ver} (h : Own tKey w base 88 ok (.slice (some ⟨g, 0, none⟩) n cap) E) (hi : E[i]? = some e) (hs : Sl tVer w (fun b => ok b ∧ b ≠ g) (.slice P m c) ch) :
    Own tKey (w.setCell ⟨g, i * 2 + 1, none⟩ (.slice P m c)) base 88 ok (.slice (some ⟨g, 0, none⟩) n cap) (E.set i ⟨e.key, ch⟩) ∧ w.grownBy (w.setCell ⟨g, i * 2 + 1, none⟩ (.slice P m c)) (some g) := by
  obtain ⟨cs, h1, h2⟩ := h
  have hn : E.length = n := by
    rcases h1.2 with ⟨e1, _⟩ | ⟨g', c', cur, e1, _⟩
    · cases e1
    · injection e1 with _ e2 _; exact e2.symm
  rw [hn] at h1
  obtain ⟨k1, k2⟩ := h1.stored (i * 2 + 1) (.slice P m c)
  have h3 := cells_setKey h2 hi (hs.mono fun b hb => ⟨hb.1, fun e1 => hb.2 (by have e1 : some g = some b := e1; injection e1 with e1; exact e1.symm)⟩)
  refine ⟨⟨_, by rw [List.length_set, hn]; exact k1, (h3.inb.step fun b hb => k2.block b hb.2 (fun e1 => hb.1.2 (by rw [e1]; rfl))).mono fun b hb => hb.1⟩, k2⟩
section
variable {w w' : World} {rb : Nat} {v : Value} {X : List Nat} {E : List Ent} {l f : Int}
theorem Rsx.row_of (h : Rsx w rb v X E l f) {i : Nat} {e : Ent} (hi : E[i]? = some e) : ∃ g cap, v = .slice (some ⟨g, 0, none⟩) E.length cap ∧ g < w.heap.size ∧ g ∈ X ∧ g ≠ rb ∧ ∀ j, w.frozen? ⟨g, j, none⟩ = false := by
  obtain ⟨cs, h1, h2⟩ := h.row
  rcases h1.2 with ⟨rfl, h0⟩ | ⟨g, cap, cur, rfl, hb, hh, hn, hc, _⟩
  · have := List.eq_nil_of_length_eq_zero h0
    rw [this] at hi; simp at hi
  · have hm := h.inK g rfl
    exact ⟨g, cap, rfl, h.lt g hm, hm, fun e => h.nP (by rw [e]; rfl), fun j => by simp [World.frozen?, hh]⟩
/-- Behind Put: the version is laid in its place. -/
theorem Rsx.laid {g cap i : Nat} {e : Ent} {P : Option Addr} {m c : Nat} {ch : List Ver} (h : Rsx w rb (.slice (some ⟨g, 0, none⟩) E.length cap) X E l f) (hi : E[i]? = some e) (hb : Below w.heap.size w w') (hs : Sl tVer w' (fun b => w.heap.size ≤ b) (.slice P m c) ch) :
    Rsx (w'.setCell ⟨g, i * 2 + 1, none⟩ (.slice P m c)) rb (.slice (some ⟨g, 0, none⟩) E.length cap) X (E.set i ⟨e.key, ch⟩) l f ∧ Chg rb rb (.slice (some ⟨g, 0, none⟩) E.length cap) w (w'.setCell ⟨g, i * 2 + 1, none⟩ (.slice P m c)) := by
  have hg : g ∈ X := h.inK g rfl
  have hgl := h.lt g hg
  have hgr : g ≠ rb := fun e => h.nP (by rw [e]; rfl)
  have hsz := hb.size
  obtain ⟨k1, k2⟩ := (h.row.below hb).setKey hi (hs.mono fun b hb => ⟨fun hm => by have := h.lt b hm; omega, by omega⟩)
  refine ⟨⟨(k2.block rb (Nat.lt_of_lt_of_le h.blk.lt hsz) (fun e => hgr (by injection e with e; exact e.symm))).trans (h.blk.below hb h.blk.lt), k1, h.inP, h.inK, fun b hm => by rw [World.size_setCell]; exact Nat.lt_of_lt_of_le (h.lt b hm) hsz, h.nP⟩, ?_⟩
  exact (Chg.of_below hb).trans (Kin.refl _ _) (Chg.of_grown k2 fun b e => .inr (.inr e))
/-- Behind the insertion: a new row. -/
theorem Rsx.renew {w4 : World} {b0 : Nat} {v4 : Value} {E4 : List Ent} (h : Rsx w rb v X E l f) (hB : Below w.heap.size w w4) (hb0 : w.heap.size ≤ b0) (hO : Own tKey w4 b0 88 (· ∉ X) v4 E4) :
    Rsx (w4.setCell ⟨rb, 0, none⟩ v4) rb v4 (v4.ownBlock.toList ++ X) E4 l f ∧ Chg rb rb v w (w4.setCell ⟨rb, 0, none⟩ v4) ∧ Kin w v v4 ∧ Xin w X (v4.ownBlock.toList ++ X) := by
  have hrb := h.blk.lt
  have hsz := hB.size
  have hlo : ∀ b, v4.ownBlock = some b → b0 ≤ b ∧ b < w4.heap.size := fun b e => hO.lo e
  have hfar : ∀ k, k ≠ rb → (w4.setCell ⟨rb, 0, none⟩ v4).heap[k]? = w4.heap[k]? := fun k hne => Below.heap_setCell w4 ⟨rb, 0, none⟩ v4 k hne
  have hold : ∀ b, b < w.heap.size → b ≠ rb → (w4.setCell ⟨rb, 0, none⟩ v4).heap[b]? = w.heap[b]? := fun b hb hne => (hfar b hne).trans (hB.block b hb)
  refine ⟨⟨(h.blk.below hB hrb).set 0 v4, ?_, List.mem_append_right _ h.inP, fun b e => List.mem_append_left _ (by rw [e]; simp), ?_, fun e => by have := (hlo rb e).1; omega⟩, ⟨hB.os, hB.tape, hB.output, by rw [World.size_setCell]; exact hsz, fun b hb h1 _ _ => hold b hb h1⟩, .inr fun b e => by have := (hlo b e).1; omega, ⟨fun b hb => ?_, fun b hb => List.mem_append_right _ hb⟩⟩
  · obtain ⟨cs, ⟨e1, hr⟩, hcs⟩ := hO
    refine ⟨cs, ⟨e1, ?_⟩, (hcs.step fun b hb => hfar b (fun e => hb.1 (by rw [e]; exact h.inP))).mono fun b hb => ⟨fun hm => ?_, hb.2⟩⟩
    · rcases hr with hr | ⟨g, cap, rest, e2, hb, hB2, r⟩
      · exact .inl hr
      · subst e2
        exact .inr ⟨g, cap, rest, rfl, by omega, (hfar g (by omega)).trans hB2, r⟩
    · rcases List.mem_append.1 hm with hm | hm
      · exact hb.2 (by simpa using hm)
      · exact hb.1 hm
  · intro b hm
    rw [World.size_setCell]
    rcases List.mem_append.1 hm with hm | hm
    · exact (hlo b (by simpa using hm)).2
    · have := h.lt b hm; omega
  · rcases List.mem_append.1 hb with hb | hb
    · have := (hlo b (by simpa using hb)).1; exact .inr (by omega)
    · exact .inl hb
end
end Go.Proofs.Ytnleldogmogkgaa
