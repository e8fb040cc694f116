import Derived.Test.YtidfogcilegloaaW11
import Derived.Test.YtidfogcilegloaaW12
import Derived.Test.YtidfogcilegloaaMap
/-! What an install turns in memory. -/
namespace Go.Proofs.Ytidfogcilegloaa
open Go.RowKit Go.Op

/-- All stays but a store's own blocks. -/
structure Chg (pb mb : Nat) (kv : Value) (w w' : World) : Prop where
  os : w'.os = w.os
  tape : w'.tape = w.tape
  output : w'.output = w.output
  size : w.heap.size ≤ w'.heap.size
  block : ∀ b, b < w.heap.size → b ≠ pb → b ≠ mb → kv.ownBlock ≠ some b → w'.heap[b]? = w.heap[b]?
def Kin (w : World) (kv kv' : Value) : Prop := kv'.ownBlock = kv.ownBlock ∨ ∀ b, kv'.ownBlock = some b → w.heap.size ≤ b
def Xin (w : World) (X X' : List Nat) : Prop := (∀ b ∈ X', b ∈ X ∨ w.heap.size ≤ b) ∧ ∀ b ∈ X, b ∈ X'
section
variable {pb mb : Nat} {kv kv' : Value} {w w' w'' : World} {X X' : List Nat}
theorem Chg.refl (pb mb : Nat) (kv : Value) (w : World) : Chg pb mb kv w w := ⟨rfl, rfl, rfl, Nat.le_refl _, fun _ _ _ _ _ => rfl⟩
theorem Chg.trans (h : Chg pb mb kv w w') (hk : Kin w kv kv') (k : Chg pb mb kv' w' w'') : Chg pb mb kv w w'' :=
  ⟨k.os.trans h.os, k.tape.trans h.tape, k.output.trans h.output, Nat.le_trans h.size k.size, fun b hb h1 h2 h3 => (k.block b (Nat.lt_of_lt_of_le hb h.size) h1 h2 (fun e => by
    rcases hk with hk | hk
    · rw [hk] at e; exact h3 e
    · have := hk b e; omega)).trans (h.block b hb h1 h2 h3)⟩
theorem Chg.of_below (h : Below w.heap.size w w') : Chg pb mb kv w w' := ⟨h.os, h.tape, h.output, h.size, fun b hb _ _ _ => h.block b hb⟩
theorem Chg.of_grown {row : Option Nat} (h : w.grownBy w' row) (hr : ∀ b, row = some b → b = pb ∨ b = mb ∨ kv.ownBlock = some b) : Chg pb mb kv w w' :=
  ⟨h.os, h.tape, h.output, h.size, fun b hb h1 h2 h3 => h.block b hb (fun e => by
    rcases hr b e.symm with e | e | e
    · exact h1 e
    · exact h2 e
    · exact h3 e)⟩
theorem Chg.toBelow (h : Chg pb mb kv w w') {z : Nat} (hz : z ≤ w.heap.size) (h1 : z ≤ pb) (h2 : z ≤ mb) (h3 : ∀ b, kv.ownBlock = some b → z ≤ b) : Below z w w' :=
  ⟨h.os, h.tape, h.output, h.size, fun b hb => h.block b (by omega) (by omega) (by omega) (fun e => by have := h3 b e; omega)⟩
theorem Kin.refl (w : World) (kv : Value) : Kin w kv kv := .inl rfl
theorem Kin.trans {kv'' : Value} (h : Kin w kv kv') (k : Kin w' kv' kv'') (hs : w.heap.size ≤ w'.heap.size) : Kin w kv kv'' := by
  rcases k with k | k
  · rcases h with h | h
    · exact .inl (k.trans h)
    · exact .inr fun b e => h b (by rw [← k]; exact e)
  · exact .inr fun b e => Nat.le_trans hs (k b e)
theorem Xin.refl (w : World) (X : List Nat) : Xin w X X := ⟨fun _ hb => .inl hb, fun _ hb => hb⟩
theorem Xin.trans {X'' : List Nat} (h : Xin w X X') (k : Xin w' X' X'') (hs : w.heap.size ≤ w'.heap.size) : Xin w X X'' := ⟨fun b hb => by
  rcases k.1 b hb with k | k
  · exact h.1 b k
  · exact .inr (Nat.le_trans hs k), fun b hb => k.2 b (h.2 b hb)⟩
end

/-- A store's memory, whatever its entries. -/
structure Stx (w : World) (pb mb : Nat) (kv : Value) (X : List Nat) (E : List Ent) (l f : Int) : Prop where
  blk : Blk w pb #[.map (some mb), kv, .int .i64 l, .int .i64 f] 73
  keys : Own Ty.str w 0 9 none_ kv (E.map (·.key))
  map : ∃ V, Mp KS w mb V ∧ Ch w X V E
  ne : pb ≠ mb
  inP : pb ∈ X
  inM : mb ∈ X
  inK : ∀ b, kv.ownBlock = some b → b ∈ X
  lt : ∀ b ∈ X, b < w.heap.size
  nP : kv.ownBlock ≠ some pb
  nM : kv.ownBlock ≠ some mb
section
variable {w w' : World} {pb mb : Nat} {kv kv' : Value} {X X' : List Nat} {S : Sto} {V : List (ByteArray × Value)} {E : List Ent} {l f : Int}
theorem Stm.x (h : Stm w pb mb kv X S) : Stx w pb mb kv X S.ents S.last S.floor := ⟨h.blk, h.keys, h.map, h.ne, h.inP, h.inM, h.inK, h.lt, h.nP, h.nM⟩
theorem Stx.m (h : Stx w pb mb kv X E l f) (h1 : Sto.Ok ⟨E, l, f⟩) (h2 : E.length ≤ 100000) (h3 : l ≤ 1000000) : Stm w pb mb kv X ⟨E, l, f⟩ :=
  ⟨h.blk, h.keys, h.map, h1, h2, h3, h.inP, h.inM, h.inK, h.lt, h.nP, h.nM⟩
theorem own_str (h : Own Ty.str w 0 9 none_ kv (E.map (·.key))) (h3 : ∀ b, kv.ownBlock = some b → w'.heap[b]? = w.heap[b]?) : Own Ty.str w' 0 9 none_ kv (E.map (·.key)) := by
  obtain ⟨cs, ⟨e1, hr⟩, hc⟩ := h
  refine ⟨cs, ⟨e1, ?_⟩, hc.step fun b hb => hb.1.elim⟩
  rcases hr with hr | ⟨g, cap, rest, e2, hb, hB, r⟩
  · exact .inl hr
  · subst e2
    exact .inr ⟨g, cap, rest, rfl, hb, (h3 g rfl).trans hB, r⟩
theorem Stx.step (h : Stx w pb mb kv X E l f) (hs : w.heap.size ≤ w'.heap.size) (h1 : w'.heap[pb]? = w.heap[pb]?) (h2 : w'.heap[mb]? = w.heap[mb]?) (h3 : ∀ b, kv.ownBlock = some b → w'.heap[b]? = w.heap[b]?)
    (h4 : ∀ b, b < w.heap.size → b ∉ X → w'.heap[b]? = w.heap[b]?) : Stx w' pb mb kv X E l f := by
  obtain ⟨V, hV, hC⟩ := h.map
  exact ⟨h1.trans h.blk, own_str h.keys h3, ⟨V, hV.same h2, hC.step h4⟩, h.ne, h.inP, h.inM, h.inK, fun b hb => Nat.lt_of_lt_of_le (h.lt b hb) hs, h.nP, h.nM⟩
theorem Stx.below (h : Stx w pb mb kv X E l f) (hb : Below w.heap.size w w') : Stx w' pb mb kv X E l f :=
  h.step hb.size (hb.block _ (h.lt _ h.inP)) (hb.block _ (h.lt _ h.inM)) (fun b e => hb.block _ (h.lt _ (h.inK b e))) fun b hl _ => hb.block b hl
theorem Stx.look (h : Stx w pb mb kv X E l f) (hr : Rising E) (k : ByteArray) (hk : k.size ≤ maxLen) :
    ∃ A n c, (Instr.lookup 70 (.map (some mb)) (.string k) true).run Try.prog w = .ok (.tuple #[.slice A n c, .bool (hasK E k)]) w ∧ Sl tVer w (· ∉ X) (.slice A n c) (chainOf E k) := by
  obtain ⟨V, hV, hC⟩ := h.map
  obtain ⟨A, n, c, h1, h2⟩ := look_at hr hV hC k
  refine ⟨A, n, c, ?_, h2⟩
  have := hV.look2 Try.underlying70 (zero61 _) hk
  rw [h1, look_ch hV hC] at this
  exact this
theorem keys_rising (hr : Rising E) : (E.map (·.key)).Pairwise fun a b => klt a b = true := by rw [List.pairwise_map]; exact hr

theorem putE_keys (hr : Rising E) (e : Ent) : (putE E e).map (·.key) = if hasK E e.key then E.map (·.key) else (E.map (·.key)).take (low E e.key) ++ e.key :: (E.map (·.key)).drop (low E e.key) := by
  rw [putE]
  cases hh : hasK E e.key with
  | false => simp [List.map_take, List.map_drop]
  | true =>
    simp only [if_true]
    obtain ⟨A, B, e1, h1, h2, h3⟩ := parts hr e.key
    rcases h3 with ⟨h3, _⟩ | ⟨_, q, C, rfl, hq, _⟩
    · rw [hh] at h3; cases h3
    · rw [← h1, e1, List.take_left, show (A ++ q :: C).drop (A.length + 1) = C by simp [List.drop_append]]
      simp only [List.map_append, List.map_cons]
      rw [hq]

/-- Behind the map's store: the entries with one version more. -/
theorem stx_put {n : Int} {p : Pair} {u : Value} {A : Option Addr} {k c : Nat} (hr : Rising E) (hb : Blk w pb #[.map (some mb), kv, .int .i64 l, .int .i64 f] 73) (hk : Own Ty.str w 0 9 none_ kv ((addE n E p).map (·.key)))
    (hV : Mp KS w mb (setV V p.key u)) (hn : (V.map (·.1)).Nodup) (hC : Ch w X V E) (hlk : (look V p.key).isSome = hasK E p.key) (hu : u = .slice A k c) (hs : Sl tVer w (· ∉ X) u (chainOf E p.key ++ [verOf n p]))
    (hne : pb ≠ mb) (hP : pb ∈ X) (hM : mb ∈ X) (hK : ∀ b, kv.ownBlock = some b → b ∈ X) (hl : ∀ b ∈ X, b < w.heap.size) (nP : kv.ownBlock ≠ some pb) (nM : kv.ownBlock ≠ some mb) : Stx w pb mb kv X (addE n E p) l f := by
  refine ⟨hb, hk, ⟨_, hV, ?_, ?_⟩, hne, hP, hM, hK, hl, nP, nM⟩
  · rw [setV_keys, hlk, addE, putE_keys hr]
    cases hh : hasK E p.key with
    | true => exact hC.keys
    | false =>
      simp only [Bool.false_eq_true, if_false]
      refine (hC.keys.append_right [p.key]).trans ?_
      have h1 := List.perm_middle (a := p.key) (l₁ := (E.map (·.key)).take (low E p.key)) (l₂ := (E.map (·.key)).drop (low E p.key))
      refine List.Perm.trans ?_ h1.symm
      rw [List.take_append_drop]
      exact List.perm_append_singleton _ _
  · intro e he
    rcases (mem_putE hr _ e).1 he with rfl | ⟨h1, h2⟩
    · exact ⟨A, k, c, by rw [look_setV hn, if_pos rfl, hu], by rw [hu] at hs; exact hs⟩
    · obtain ⟨A', n', c', h3, h4⟩ := hC.chains e h1
      exact ⟨A', n', c', by rw [look_setV hn, if_neg h2]; exact h3, h4⟩
end

/-- Ahead of the map's store: the keys are those of the entries to come. -/
structure Rdy (W : World) (pb mb : Nat) (kq : Value) (Xq : List Nat) (E : List Ent) (p : Pair) (n la fl : Int) (ga : Nat) (Ac : Option Addr) (nc cc : Nat) : Prop where
  blk : Blk W pb #[.map (some mb), kq, .int .i64 la, .int .i64 fl] 73
  keys : Own Ty.str W 0 9 none_ kq ((addE n E p).map (·.key))
  map : ∃ V, Mp KS W mb V ∧ Ch W Xq V E
  chain : Sl tVer W (· ∉ Xq) (.slice Ac nc cc) (chainOf E p.key)
  pa : Blk W ga #[.string p.key, .string p.val, .bool p.dead] 68
  ne : pb ≠ mb
  inP : pb ∈ Xq
  inM : mb ∈ Xq
  inK : ∀ b, kq.ownBlock = some b → b ∈ Xq
  lt : ∀ b ∈ Xq, b < W.heap.size
  nP : kq.ownBlock ≠ some pb
  nM : kq.ownBlock ≠ some mb
theorem rdy_has {W : World} {pb mb : Nat} {kr : Value} {Xr : List Nat} {E : List Ent} {p : Pair} {n la fl : Int} {ga : Nat} {Ac : Option Addr} {nc cc : Nat} (h : Stx W pb mb kr Xr E la fl) (hr : Rising E) (hh : hasK E p.key = true)
    (hc : Sl tVer W (· ∉ Xr) (.slice Ac nc cc) (chainOf E p.key)) (hp : Blk W ga #[.string p.key, .string p.val, .bool p.dead] 68) : Rdy W pb mb kr Xr E p n la fl ga Ac nc cc :=
  ⟨h.blk, by rw [addE, putE_keys hr, if_pos hh]; exact h.keys, h.map, hc, hp, h.ne, h.inP, h.inM, h.inK, h.lt, h.nP, h.nM⟩
theorem Ch.more {w : World} {X X' : List Nat} {V : List (ByteArray × Value)} {E : List Ent} (h : Ch w X V E) (hX : ∀ b, b < w.heap.size → b ∉ X → b ∉ X') : Ch w X' V E :=
  ⟨h.keys, fun e he => by
    obtain ⟨A, n, c, h1, h2⟩ := h.chains e he
    exact ⟨A, n, c, h1, h2.inb.mono fun b hb => hX b hb.2 hb.1⟩⟩
theorem rdy_ins {W2 Wv W5 : World} {pb mb : Nat} {kr kq : Value} {Xr : List Nat} {E : List Ent} {p : Pair} {n la fl : Int} {ga ix : Nat} {Ac : Option Addr} {nc cc : Nat} (h : Stx W2 pb mb kr Xr E la fl) (hr : Rising E) (hh : hasK E p.key = false)
    (hc : Sl tVer W2 (· ∉ Xr) (.slice Ac nc cc) (chainOf E p.key)) (hp : Blk W2 ga #[.string p.key, .string p.val, .bool p.dead] 68) (hga : ∀ b ∈ Xr, b < ga) (hv : Below W2.heap.size W2 Wv) (hix : lowS (E.map (·.key)) p.key = ix)
    (hk : Own Ty.str W5 0 9 none_ kq ((E.map (·.key)).take ix ++ p.key :: (E.map (·.key)).drop ix)) (hg : Wv.grownBy W5 kr.ownBlock) (hq : kq.ownBlock = kr.ownBlock ∨ kq.ownBlock = some Wv.heap.size) :
    Rdy (W5.setCell ⟨pb, 1, none⟩ kq) pb mb kq (kq.ownBlock.toList ++ Xr) E p n la fl ga Ac nc cc ∧ Chg pb mb kr W2 (W5.setCell ⟨pb, 1, none⟩ kq) ∧ Kin W2 kr kq ∧ Xin W2 Xr (kq.ownBlock.toList ++ Xr) := by
  have hsv := hv.size
  have hpb := h.lt _ h.inP
  have hmb := h.lt _ h.inM
  have hXq : ∀ b ∈ kq.ownBlock.toList ++ Xr, b ∈ Xr ∨ b = Wv.heap.size := fun b hb => by
    rcases List.mem_append.1 hb with hb | hb
    · have e : kq.ownBlock = some b := by simpa using hb
      rcases hq with hq | hq
      · exact .inl (h.inK b (by rw [← hq]; exact e))
      · rw [hq] at e; injection e with e; exact .inr e.symm
    · exact .inl hb
  have hsub : ∀ b ∈ Xr, b ∈ kq.ownBlock.toList ++ Xr := fun b hb => List.mem_append_right _ hb
  have hout : ∀ b, b < W2.heap.size → b ∉ Xr → b ∉ kq.ownBlock.toList ++ Xr := fun b hb hn hm => by
    rcases hXq b hm with h1 | h1
    · exact hn h1
    · omega
  have hfar : ∀ (k : Nat), k ≠ pb → (W5.setCell ⟨pb, 1, none⟩ kq).heap[k]? = W5.heap[k]? := fun k hne => Below.heap_setCell W5 ⟨pb, 1, none⟩ kq k hne
  have hall : ∀ b, b < W2.heap.size → b ≠ pb → kr.ownBlock ≠ some b → (W5.setCell ⟨pb, 1, none⟩ kq).heap[b]? = W2.heap[b]? := fun b hb h1 h2 =>
    (hfar b h1).trans ((hg.block b (by omega) (fun e => h2 e.symm)).trans (hv.block b hb))
  have hXall : ∀ b, b < W2.heap.size → b ∉ Xr → (W5.setCell ⟨pb, 1, none⟩ kq).heap[b]? = W2.heap[b]? := fun b hb hn => hall b hb (fun e => hn (by rw [e]; exact h.inP)) (fun e => hn (h.inK b e))
  have hkP : kq.ownBlock ≠ some pb := fun e => by
    rcases hq with hq | hq
    · exact h.nP (by rw [← hq]; exact e)
    · rw [hq] at e; injection e with e; omega
  have hkM : kq.ownBlock ≠ some mb := fun e => by
    rcases hq with hq | hq
    · exact h.nM (by rw [← hq]; exact e)
    · rw [hq] at e; injection e with e; omega
  have hkeys : (addE n E p).map (·.key) = (E.map (·.key)).take ix ++ p.key :: (E.map (·.key)).drop ix := by
    rw [addE, putE_keys hr, hh, ← hix, lowS_keys]; rfl
  have hb5 : Blk W5 pb #[.map (some mb), kr, .int .i64 la, .int .i64 fl] 73 := (hg.block pb (by omega) (fun e => h.nP e.symm)).trans (h.blk.below hv hpb)
  obtain ⟨V, hV, hC⟩ := h.map
  have hs5 := hg.size
  have hlo : ∀ b, kq.ownBlock = some b → b < W5.heap.size := fun b e => (hk.lo e).2
  refine ⟨⟨hb5.set 1 kq, ?_, ⟨V, ?_, ?_⟩, ?_, ?_, h.ne, hsub _ h.inP, hsub _ h.inM, fun b e => List.mem_append_left _ (by rw [e]; simp), ?_, hkP, hkM⟩, ?_, ?_, ?_⟩
  · exact own_str (by rw [hkeys]; exact hk) (fun b e => hfar b (fun e' => hkP (by rw [← e']; exact e)))
  · exact hV.same (hall mb hmb (fun e => h.ne e.symm) h.nM)
  · exact (hC.more hout).step fun b hb hn => hXall b hb (fun hm => hn (hsub b hm))
  · exact (hc.inb.step fun b hb => hXall b hb.2 hb.1).mono fun b hb => hout b hb.2 hb.1
  · exact (hall ga hp.lt (fun e => by have := hga _ h.inP; omega) (fun e => by have := hga _ (h.inK _ e); omega)).trans hp
  · intro b hb
    rw [World.size_setCell]
    rcases List.mem_append.1 hb with hb | hb
    · exact hlo b (by simpa using hb)
    · have := h.lt b hb; omega
  · exact ⟨hg.os.trans hv.os, hg.tape.trans hv.tape, hg.output.trans hv.output, by rw [World.size_setCell]; omega, fun b hb h1 _ h3 => hall b hb h1 h3⟩
  · rcases hq with hq | hq
    · exact .inl hq
    · exact .inr fun b e => by rw [hq] at e; injection e with e; omega
  · refine ⟨fun b hb => ?_, hsub⟩
    rcases hXq b hb with h1 | h1
    · exact .inl h1
    · exact .inr (by omega)
/-- Behind it. -/
theorem rdy_done {W W7 W9 : World} {pb mb : Nat} {kq : Value} {Xq : List Nat} {E : List Ent} {p : Pair} {n la fl : Int} {ga : Nat} {Ac A : Option Addr} {nc cc k c : Nat} {V : List (ByteArray × Value)} (h : Rdy W pb mb kq Xq E p n la fl ga Ac nc cc) (hr : Rising E)
    (hV : Mp KS W mb V) (hC : Ch W Xq V E) (hb : Below W.heap.size W W7) (hu : Sl tVer W7 (fun b => W.heap.size ≤ b) (.slice A k c) (chainOf E p.key ++ [verOf n p])) (hM : Mp KS W9 mb (setV V p.key (.slice A k c))) (hg : W7.grownBy W9 (some mb)) :
    Stx W9 pb mb kq Xq (addE n E p) la fl ∧ Chg pb mb kq W W9 := by
  have hs7 := hb.size
  have hs9 := hg.size
  have hall : ∀ b, b < W.heap.size → b ≠ mb → W9.heap[b]? = W.heap[b]? := fun b h1 h2 => (hg.block b (by omega) (fun e => h2 (by injection e))).trans (hb.block b h1)
  have hpb := h.lt _ h.inP
  refine ⟨stx_put (V := V) hr ((hall pb hpb h.ne).trans h.blk) ?_ hM hV.nodup (hC.step fun b hb hn => hall b hb (fun e => hn (by rw [e]; exact h.inM))) (look_ch hV hC p.key) rfl ?_ h.ne h.inP h.inM h.inK (fun b hb => by have := h.lt b hb; omega) h.nP h.nM, ?_⟩
  · exact own_str h.keys fun b e => hall b (h.lt b (h.inK b e)) (fun e' => h.nM (by rw [← e']; exact e))
  · refine (hu.inb.step fun b hb => hg.block b hb.2 (fun e => by injection e with e; have := h.lt _ h.inM; have := hb.1; omega)).mono fun b hb hm => ?_
    have := h.lt b hm
    have := hb.1
    omega
  · exact (Chg.of_below hb).trans (Kin.refl _ _) (Chg.of_grown hg fun b e => .inr (.inl (by injection e with e; exact e.symm)))

theorem setC_grown (W : World) (z j : Nat) (v : Value) : W.grownBy (W.setCell ⟨z, j, none⟩ v) (some z) :=
  ⟨rfl, rfl, rfl, by rw [World.size_setCell]; exact Nat.le_refl _, fun k _ hne => Below.heap_setCell W ⟨z, j, none⟩ v k (by intro e; exact hne (by rw [e]))⟩
theorem Stx.other {w : World} {pb mb : Nat} {kv : Value} {X : List Nat} {E : List Ent} {l f : Int} (h : Stx w pb mb kv X E l f) {l' f' : Int} (j : Nat) (v : Value) (hs : #[Value.map (some mb), kv, .int .i64 l, .int .i64 f].setIfInBounds j v = #[.map (some mb), kv, .int .i64 l', .int .i64 f']) : Stx (w.setCell ⟨pb, j, none⟩ v) pb mb kv X E l' f' := by
  have hfar : ∀ (k : Nat), k ≠ pb → (w.setCell ⟨pb, j, none⟩ v).heap[k]? = w.heap[k]? := fun k hne => Below.heap_setCell w ⟨pb, j, none⟩ v k hne
  obtain ⟨V, hV, hC⟩ := h.map
  exact ⟨by rw [← hs]; exact h.blk.set j v, own_str h.keys fun b e => hfar b (fun e' => h.nP (by rw [← e']; exact e)), ⟨V, hV.same (hfar _ h.ne.symm), hC.step fun b _ hn => hfar b (fun e => hn (by rw [e]; exact h.inP))⟩, h.ne, h.inP, h.inM, h.inK,
    fun b hb => by rw [World.size_setCell]; exact h.lt b hb, h.nP, h.nM⟩
theorem step_mp_put {P : Program} {kt : TypeId} {κ : Type} [DecidableEq κ] {K : MKey P kt κ} {b : Nat} {V : List (κ × Value)} {ops : Array Oper} {o : Oper} {a : Act} {w : World} {Q : Exit → Act → World → Prop} {K' : Act → World → Prop} {E' : Prop} (hg : o.guard = none) (m x v : Operand) (t e : TypeId) (hop : o.op = Op.mapUpdate t m x v) (ht : P.underlying t = some (.map kt e))
    (hm : a.eval m = .map (some b)) (h : Mp K w b V) (hn : V.length < maxLen) (k : κ) (hk : K.ok k) (hx : a.eval x = K.val k) (u : Value) (hv : a.eval v = u)
    (hK : ∀ w', Mp K w' b (setV V k u) → w.grownBy w' (some b) → w'.heap.size = w.heap.size → K' (a.put o.dst undef) w') :
    if Region.wanted o (yielded ops a.tmps) = true then Oper.wp P o a w K' Q else E' := by
  have hw : Region.wanted o (yielded ops a.tmps) = true := by simp [Region.wanted, hg]
  rw [if_pos hw]
  obtain ⟨w', hrun, r1, r2, r3⟩ := h.put ht hn hk u
  unfold Oper.wp
  simp [execOp, hop, hm, hx, hv, hrun, Result.andThen]
  exact hK w' r1 r2 r3
end Go.Proofs.Ytidfogcilegloaa
