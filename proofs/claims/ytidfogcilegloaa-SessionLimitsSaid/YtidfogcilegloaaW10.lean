import Derived.Test.YtidfogcilegloaaW9
import Derived.Test.YtidfogcilegloaaMap
import Derived.Test.YtidfogcilegloaaSto
/-! The store in memory; its small functions. -/
namespace Go.Proofs.Ytidfogcilegloaa
open Go.RowKit Go.Op

noncomputable abbrev KS : MKey Try.prog 9 ByteArray := strKey Try.underlying9
def none_ : Nat → Prop := fun _ => False
theorem max_of {k : ByteArray} (h : k.size ≤ 140737488351232) : k.size ≤ maxLen := by unfold maxLen; omega
theorem grown_of {w w' : World} (hb : Below w.heap.size w w') (row : Option Nat) : w.grownBy w' row := ⟨hb.os, hb.tape, hb.output, hb.size, fun k hk _ => hb.block k hk⟩

/-- The map's side of entries. -/
structure Ch (w : World) (X : List Nat) (V : List (ByteArray × Value)) (E : List Ent) : Prop where
  keys : (V.map (·.1)).Perm (E.map (·.key))
  chains : ∀ e ∈ E, ∃ A n c, look V e.key = some (.slice A n c) ∧ Sl tVer w (· ∉ X) (.slice A n c) e.c
/-- A store: its pointer's block, its map's, its keys; X: the blocks that it may write (and others). -/
structure Stm (w : World) (pb mb : Nat) (kv : Value) (X : List Nat) (S : Sto) : Prop where
  blk : Blk w pb #[.map (some mb), kv, .int .i64 S.last, .int .i64 S.floor] 73
  keys : Own Ty.str w 0 9 none_ kv (S.ents.map (·.key))
  map : ∃ V, Mp KS w mb V ∧ Ch w X V S.ents
  ok : S.Ok
  few : S.ents.length ≤ 100000
  last : S.last ≤ 1000000
  inP : pb ∈ X
  inM : mb ∈ X
  inK : ∀ b, kv.ownBlock = some b → b ∈ X
  lt : ∀ b ∈ X, b < w.heap.size
  nP : kv.ownBlock ≠ some pb
  nM : kv.ownBlock ≠ some mb
section
variable {w w' : World} {pb mb : Nat} {kv : Value} {X : List Nat} {S : Sto} {V : List (ByteArray × Value)} {E : List Ent}
theorem Ch.step (h : Ch w X V E) (hb : ∀ b, b < w.heap.size → b ∉ X → w'.heap[b]? = w.heap[b]?) : Ch w' X V E :=
  ⟨h.keys, fun e he => by
    obtain ⟨A, n, c, h1, h2⟩ := h.chains e he
    exact ⟨A, n, c, h1, (h2.inb.step fun b hq => hb b hq.2 hq.1).mono fun b hq => hq.1⟩⟩
theorem Stm.ne (h : Stm w pb mb kv X S) : pb ≠ mb := by
  rintro rfl
  obtain ⟨V, ⟨D, ⟨es, cl, h1, _⟩, _⟩, _⟩ := h.map
  have h2 := h.blk
  unfold Blk at h2
  rw [h1] at h2
  cases h2
/-- What turns none of a store's blocks keeps it. -/
theorem Stm.step (h : Stm w pb mb kv X S) (hs : w.heap.size ≤ w'.heap.size) (h1 : w'.heap[pb]? = w.heap[pb]?) (h2 : w'.heap[mb]? = w.heap[mb]?) (h3 : ∀ b, kv.ownBlock = some b → w'.heap[b]? = w.heap[b]?)
    (h4 : ∀ b, b < w.heap.size → b ∉ X → w'.heap[b]? = w.heap[b]?) : Stm w' pb mb kv X S := by
  obtain ⟨V, hV, hC⟩ := h.map
  refine ⟨h1.trans h.blk, ?_, ⟨V, hV.same h2, hC.step h4⟩, h.ok, h.few, h.last, h.inP, h.inM, h.inK, fun b hb => Nat.lt_of_lt_of_le (h.lt b hb) hs, h.nP, h.nM⟩
  obtain ⟨cs, ⟨e1, hr⟩, hc⟩ := h.keys
  refine ⟨cs, ⟨e1, ?_⟩, hc.step fun b hb => hb.1.elim⟩
  rcases hr with hr | ⟨g, cap, rest, e2, hb, hB, r⟩
  · exact .inl hr
  · subst e2
    exact .inr ⟨g, cap, rest, rfl, hb, (h3 g rfl).trans hB, r⟩
theorem Stm.below (h : Stm w pb mb kv X S) (hb : Below w.heap.size w w') : Stm w' pb mb kv X S :=
  h.step hb.size (hb.block _ (h.lt _ h.inP)) (hb.block _ (h.lt _ h.inM)) (fun b e => hb.block _ (h.lt _ (h.inK b e))) fun b hl _ => hb.block b hl
theorem Stm.cells (h : Stm w pb mb kv X S) : w.cell? ⟨pb, 0, none⟩ = some (.map (some mb)) ∧ w.cell? ⟨pb, 1, none⟩ = some kv ∧ w.cell? ⟨pb, 2, none⟩ = some (.int .i64 S.last) ∧ w.cell? ⟨pb, 3, none⟩ = some (.int .i64 S.floor) :=
  ⟨h.blk.cell 0, h.blk.cell 1, h.blk.cell 2, h.blk.cell 3⟩
theorem look_ch (_hV : Mp KS w mb V) (hC : Ch w X V E) (k : ByteArray) : (look V k).isSome = hasK E k := by
  cases hl : look V k with
  | none =>
    rw [look_none] at hl
    cases hh : hasK E k with
    | false => rfl
    | true =>
      rw [hasK, List.any_eq_true] at hh
      obtain ⟨e, he, hk⟩ := hh
      rw [beq_key, decide_eq_true_eq] at hk
      subst hk
      have : e.key ∈ V.map (·.1) := hC.keys.mem_iff.2 (List.mem_map.2 ⟨e, he, rfl⟩)
      obtain ⟨p, hp, hq⟩ := List.mem_map.1 this
      exact absurd hq (hl p hp)
  | some v =>
    have h1 := look_mem hl
    have : k ∈ E.map (·.key) := hC.keys.mem_iff.1 (List.mem_map.2 ⟨_, h1, rfl⟩)
    obtain ⟨e, he, rfl⟩ := List.mem_map.1 this
    symm
    show hasK E e.key = true
    rw [hasK, List.any_eq_true]
    exact ⟨e, he, by rw [beq_key]; simp⟩
/-- What is looked up: the chain of a key. -/
theorem look_at (hr : Rising E) (hV : Mp KS w mb V) (hC : Ch w X V E) (k : ByteArray) : ∃ A n c, (look V k).getD (.slice none 0 0) = .slice A n c ∧ Sl tVer w (· ∉ X) (.slice A n c) (chainOf E k) := by
  have hs := look_ch hV hC k
  cases hf : findK E k with
  | none =>
    rw [hasK_find, hf] at hs
    have : look V k = none := by cases hl : look V k with
      | none => rfl
      | some v => rw [hl] at hs; cases hs
    rw [this, chainOf_none hf]
    exact ⟨none, 0, 0, rfl, Sl.nil _ _ _⟩
  | some e =>
    obtain ⟨he, rfl⟩ := findK_some hf
    obtain ⟨A, n, c, h1, h2⟩ := hC.chains e he
    rw [h1, chainOf_mem hr he]
    exact ⟨A, n, c, rfl, h2⟩
end
theorem zero61 (w : World) : (zeroValue 86).run Try.prog w = .ok (.slice none 0 0) w := by kernel_rfl
theorem zero55 (w : World) : (zeroValue 70).run Try.prog w = .ok (.map none) w := by kernel_rfl
theorem chain_len {m : Int} {E : List Ent} (hm0 : 0 ≤ m) (hm : m ≤ 1000000) (h : ∀ e ∈ E, ChOk m e) (k : ByteArray) : (chainOf E k).length ≤ 1000000 := by
  unfold chainOf
  cases hf : findK E k with
  | none => simp
  | some e => have := (h e (findK_some hf).1).len hm0; simp; omega
theorem Stm.look {w : World} {pb mb : Nat} {kv : Value} {X : List Nat} {S : Sto} (h : Stm w pb mb kv X S) (k : ByteArray) (hk : k.size ≤ maxLen) :
    ∃ A n c, n ≤ 1000000 ∧ (Instr.lookup 70 (.map (some mb)) (.string k) false).run Try.prog w = .ok (.slice A n c) w ∧
      (Instr.lookup 70 (.map (some mb)) (.string k) true).run Try.prog w = .ok (.tuple #[.slice A n c, .bool (hasK S.ents k)]) w ∧ Sl tVer w (· ∉ X) (.slice A n c) (chainOf S.ents k) := by
  obtain ⟨V, hV, hC⟩ := h.map
  obtain ⟨A, n, c, h1, h2⟩ := look_at h.ok.rising hV hC k
  refine ⟨A, n, c, ?_, ?_, ?_, h2⟩
  · have := chain_len (by have := h.ok.fl; have := h.ok.le; omega) h.last h.ok.chains k
    have := h2.length.1
    omega
  · have := hV.look1 Try.underlying70 (zero61 _) hk
    rw [h1] at this
    exact this
  · have := hV.look2 Try.underlying70 (zero61 _) hk
    rw [h1, look_ch hV hC] at this
    exact this

theorem snew_calls (w : World) : Calls Try.prog 6 #[] w fun e w' => e = .returned (.pointer (some ⟨w.heap.size + 1, 0, none⟩)) ∧ Stm w' (w.heap.size + 1) w.heap.size (.slice none 0 0) [w.heap.size, w.heap.size + 1] Sto.new ∧ Below w.heap.size w w' := by
  have hmm := @run_makeMap Try.prog
  have hM : Stm ((w.alloc (.map #[] 0)).alloc (.cells #[.map (some w.heap.size), .slice none 0 0, .int .i64 0, .int .i64 0] 73)) (w.heap.size + 1) w.heap.size (.slice none 0 0) [w.heap.size, w.heap.size + 1] Sto.new :=
    ⟨by have := Blk.new (w.alloc (.map #[] 0)) #[.map (some w.heap.size), .slice none 0 0, .int .i64 0, .int .i64 0] 73; rw [World.size_alloc] at this; exact this, Own.nil _ _ _ _ _, ⟨[], (Mp.made KS w).below ((Below.refl _ _).alloc (by simp) _), .refl _, fun e he => by cases he⟩,
      Sto.Ok.new, by simp [Sto.new], by simp [Sto.new], by simp, by simp, (by intro b h; cases h), (by intro b hb; simp at hb; simp; omega), (by simp [Value.ownBlock]), (by simp [Value.ownBlock])⟩
  have HM := Lib.hid hM
  have HB := Lib.hid (((Below.refl w.heap.size w).alloc (Nat.le_refl _) (.map #[] 0)).alloc (by simp) (.cells #[.map (some w.heap.size), .slice none 0 0, .int .i64 0, .int .i64 0] 73))
  clear hM
  go_enter Try.func6, Try.ntmps6
  go_wp2
  go_ret
  exact ⟨rfl, HM.out, HB.out⟩

set_option maxRecDepth 100000 in
theorem made_calls (pb mb : Nat) (a b c : Value) (w : World) (hb : Blk w pb #[.map (some mb), a, b, c] 73) : Calls Try.prog 37 #[.pointer (some ⟨pb, 0, none⟩)] w fun e w' => e = .returned (.bool true) ∧ w = w' := by
  have c0 : w.cell? ⟨pb, 0, none⟩ = some (.map (some mb)) := hb.cell 0
  clear hb
  have hx : ∀ W, (binOp .neq 70 (.map (some mb)) (.map none)).run Try.prog W = .ok (.bool true) W := fun _ => by kernel_rfl
  go_enter Try.func37, Try.ntmps37
  go_wp2
  go_ret
  exact ⟨rfl, rfl⟩
theorem Stm.made {w : World} {pb mb : Nat} {kv : Value} {X : List Nat} {S : Sto} (h : Stm w pb mb kv X S) : Calls Try.prog 37 #[.pointer (some ⟨pb, 0, none⟩)] w fun e w' => e = .returned (.bool true) ∧ w = w' := made_calls pb mb _ _ _ w h.blk

theorem may_calls (pb mb : Nat) (kv : Value) (X : List Nat) (S : Sto) (n : Int) (w : World) (h : Stm w pb mb kv X S) :
    Calls Try.prog 42 #[.pointer (some ⟨pb, 0, none⟩), .int .i64 n] w fun e w' => e = .returned (.int .i64 (may S n)) ∧ w = w' := by
  obtain ⟨-, -, c2, c3⟩ := h.cells
  have HM := Lib.hid h.made
  clear h
  go_enter Try.func42, Try.ntmps42
  go_wp2_with fail
  refine HM.out.mono ?_
  rintro e w' ⟨rfl, rfl⟩
  by_cases h1 : n < S.floor
  · go_wp2
    go_ret
    exact ⟨ret_int (by unfold may; rw [if_pos (by omega)]), rfl⟩
  · by_cases h2 : S.last < n
    · go_wp2
      go_ret
      exact ⟨ret_int (by unfold may; rw [if_neg (by omega), if_pos (by omega)]), rfl⟩
    · go_wp2
      go_ret
      exact ⟨ret_int (by unfold may; rw [if_neg (by omega), if_neg (by omega)]), rfl⟩

theorem slast_calls (pb mb : Nat) (kv : Value) (X : List Nat) (S : Sto) (w : World) (h : Stm w pb mb kv X S) :
    Calls Try.prog 21 #[.pointer (some ⟨pb, 0, none⟩)] w fun e w' => e = .returned (.int .i64 S.last) ∧ w = w' := by
  obtain ⟨-, -, c2, c3⟩ := h.cells
  have HM := Lib.hid h.made
  clear h
  go_enter Try.func21, Try.ntmps21
  go_wp2_with fail
  refine HM.out.mono ?_
  rintro e w' ⟨rfl, rfl⟩
  go_wp2
  go_ret
  exact ⟨rfl, rfl⟩
theorem sget_calls (pb mb : Nat) (kv : Value) (X : List Nat) (S : Sto) (k : ByteArray) (n : Int) (w : World) (h : Stm w pb mb kv X S) (hk : k.size ≤ maxLen) :
    Calls Try.prog 24 #[.pointer (some ⟨pb, 0, none⟩), .string k, .int .i64 n] w fun e w' => e = .returned (.tuple #[.string (getS S k n).1, .int .i64 (getS S k n).2]) ∧ Below w.heap.size w w' := by
  obtain ⟨c0, -, -, -⟩ := h.cells
  obtain ⟨A, m, c, hm, hl, -, hs⟩ := h.look k hk
  have HM := Lib.hid (may_calls pb mb kv X S n w h)
  have HG := Lib.hid (get_calls (chainOf S.ents k) A m c n w (hs.mono fun _ _ => trivial) (by omega))
  unfold getS
  obtain ⟨q, hq⟩ : ∃ q, may S n = q := ⟨_, rfl⟩
  obtain ⟨o, ho⟩ : ∃ o, get (chainOf S.ents k) n = o := ⟨_, rfl⟩
  rw [ho] at HG ⊢
  rw [hq] at HM ⊢
  clear h hs hq ho
  go_enter Try.func24, Try.ntmps24
  go_wp2_with fail
  refine HM.out.mono ?_
  rintro e w' ⟨rfl, rfl⟩
  by_cases h0 : q = 0
  · subst h0
    go_wp2_with fail
    refine HG.out.mono ?_
    rintro e w' ⟨rfl, hb⟩
    have HB := Lib.hid hb
    clear hl c0 hb
    cases o with
    | none =>
      simp only [getV, Option.getD, Option.isSome, Ver.enc, Ver.zero]
      go_wp2
      refine bodyPost_ret (v := .tuple #[.string ⟨#[]⟩, .int .i64 8]) (by simp [results, Try.results24, go_sem]) rfl ⟨rfl, HB.out.alloc HB.out.size _⟩
    | some v =>
      simp only [getV, Option.getD, Option.isSome, Ver.enc]
      go_wp2
      refine bodyPost_ret (v := .tuple #[.string v.val, .int .i64 0]) (by simp [results, Try.results24, go_sem]) rfl ⟨rfl, HB.out.alloc HB.out.size _⟩
  · have h0' : (q != 0) = true := by simpa using h0
    have h0'' : (q == 0) = false := by simpa using h0
    clear hl c0
    have H0 := Lib.hid h0
    clear h0
    go_wp2
    refine bodyPost_ret (v := .tuple #[.string ⟨#[]⟩, .int .i64 q]) (by simp [results, Try.results24, go_sem]) rfl ⟨rfl, Below.refl _ _⟩
end Go.Proofs.Ytidfogcilegloaa
