import Derived.Test.YtnleldogmogkgaaW31
import Derived.Test.YtnleldogmogkgaaW17
import Derived.Test.YtnleldogmogkgaaW34
/-! A row of keys beside a store. -/
namespace Go.Proofs.Ytnleldogmogkgaa
open Go.RowKit Go.Op

section
variable {wx w W W' w' : World} {pb mb : Nat} {kv : Value} {X X' : List Nat} {S : Sto}
theorem Stm.move (h : Stm w pb mb kv X S) (hs : w.heap.size ≤ w'.heap.size) (h1 : w'.heap[pb]? = w.heap[pb]?) (h2 : w'.heap[mb]? = w.heap[mb]?) (h3 : ∀ b, kv.ownBlock = some b → w'.heap[b]? = w.heap[b]?)
    (h4 : ∀ b, b < w.heap.size → b ∉ X → w'.heap[b]? = w.heap[b]?) (hsub : ∀ b ∈ X, b ∈ X') (hlt : ∀ b ∈ X', b < w'.heap.size) (hnew : ∀ b ∈ X', b ∈ X ∨ w.heap.size ≤ b) : Stm w' pb mb kv X' S := by
  have h0 := h.step hs h1 h2 h3 h4
  obtain ⟨V, hV, hC⟩ := h.map
  have hout : ∀ b, b < w.heap.size → b ∉ X → b ∉ X' := fun b hb hn hm => by
    rcases hnew b hm with h | h
    · exact hn h
    · omega
  exact ⟨h0.blk, h0.keys, ⟨V, hV.same h2, (hC.more hout).step fun b hb hn => h4 b hb (fun hm => hn (hsub b hm))⟩, h.ok, h.few, h.last, hsub _ h.inP, hsub _ h.inM, fun b e => hsub _ (h.inK b e), hlt, h.nP, h.nM⟩
/-- Keys of the call's own; the store's chains keep off them. -/
structure KeyRow (W : World) (base : Nat) (vk : Value) (ks : List ByteArray) (X : List Nat) (pb mb : Nat) (kv : Value) : Prop where
  own : Own Ty.str W base 9 none_ vk ks
  inX : ∀ b, vk.ownBlock = some b → b ∈ X ∧ b ≠ pb ∧ b ≠ mb ∧ kv.ownBlock ≠ some b
theorem own_same {base : Nat} {vk : Value} {ks : List ByteArray} (h : Own Ty.str W base 9 none_ vk ks) (h3 : ∀ b, vk.ownBlock = some b → W'.heap[b]? = W.heap[b]?) : Own Ty.str W' base 9 none_ vk ks := by
  obtain ⟨cs, ⟨e1, hr⟩, hc⟩ := h
  refine ⟨cs, ⟨e1, ?_⟩, hc.step fun b hb => hb.1.elim⟩
  rcases hr with hr | ⟨g, cap, rest, e2, hb, hB, r⟩
  · exact .inl hr
  · subst e2
    exact .inr ⟨g, cap, rest, rfl, hb, (h3 g rfl).trans hB, r⟩
variable {base : Nat} {vk v1 : Value} {ks : List ByteArray}
theorem KeyRow.below (h : KeyRow W base vk ks X pb mb kv) (hb : Below W.heap.size W W') : KeyRow W' base vk ks X pb mb kv := ⟨h.own.below hb, h.inX⟩
/-- Keys, none. -/
theorem keys_new (h : My wx W pb mb kv X S) : ∃ X', My wx (W.alloc (.cells #[] 9)) pb mb kv X' S ∧ KeyRow (W.alloc (.cells #[] 9)) W.heap.size (.slice (some ⟨W.heap.size, 0, none⟩) 0 0) [] X' pb mb kv := by
  have hb : Below W.heap.size W (W.alloc (.cells #[] 9)) := (Below.refl _ _).alloc (Nat.le_refl _) _
  have hlt := h.st.lt
  refine ⟨W.heap.size :: X, ⟨h.st.move hb.size (hb.block _ (hlt _ h.st.inP)) (hb.block _ (hlt _ h.st.inM)) (fun b e => hb.block _ (hlt _ (h.st.inK b e))) (fun b hl _ => hb.block b hl) (fun b hm => List.mem_cons_of_mem _ hm) ?_ ?_, h.be.trans (hb.mono h.be.size), ?_⟩, Own.empty _ _ _ _ (Nat.le_refl _), ?_⟩
  · intro b hm
    rcases List.mem_cons.1 hm with rfl | hm
    · simp
    · have := hlt b hm; simp; omega
  · intro b hm
    rcases List.mem_cons.1 hm with rfl | hm
    · exact .inr (Nat.le_refl _)
    · exact .inl hm
  · intro b hm
    rcases List.mem_cons.1 hm with rfl | hm
    · exact h.be.size
    · exact h.ge b hm
  · intro b e
    have : W.heap.size = b := by simpa [Value.ownBlock] using e
    subst this
    refine ⟨by simp, fun e => ?_, fun e => ?_, fun e => ?_⟩
    · have := hlt _ h.st.inP; omega
    · have := hlt _ h.st.inM; omega
    · have := hlt _ (h.st.inK _ e); omega
/-- One key more. -/
theorem keys_push {k : ByteArray} (h : My wx W pb mb kv X S) (hk : KeyRow W base vk ks X pb mb kv) (hO : Own Ty.str W' base 9 none_ v1 (ks ++ [k])) (hg : W.grownBy W' vk.ownBlock) (hor : v1.ownBlock = vk.ownBlock ∨ ∃ b, v1.ownBlock = some b ∧ W.heap.size ≤ b) :
    ∃ X', My wx W' pb mb kv X' S ∧ KeyRow W' base v1 (ks ++ [k]) X' pb mb kv := by
  have hlt := h.st.lt
  have hgs := hg.size
  have h1 : W'.heap[pb]? = W.heap[pb]? := hg.block _ (hlt _ h.st.inP) (fun e => (hk.inX _ e.symm).2.1 rfl)
  have h2 : W'.heap[mb]? = W.heap[mb]? := hg.block _ (hlt _ h.st.inM) (fun e => (hk.inX _ e.symm).2.2.1 rfl)
  have h3 : ∀ b, kv.ownBlock = some b → W'.heap[b]? = W.heap[b]? := fun b e => hg.block _ (hlt _ (h.st.inK b e)) (fun e' => (hk.inX _ e'.symm).2.2.2 e)
  have h4 : ∀ b, b < W.heap.size → b ∉ X → W'.heap[b]? = W.heap[b]? := fun b hb hn => hg.block b hb (fun e => hn (hk.inX _ e.symm).1)
  have hbe : Below wx.heap.size wx W' := h.be.grown hg h.be.size (fun b e => h.ge b (hk.inX b e).1)
  rcases hor with e | ⟨b2, e, hb2⟩
  · exact ⟨X, ⟨h.st.move hgs h1 h2 h3 h4 (fun _ hm => hm) (fun b hm => by have := hlt b hm; omega) (fun b hm => .inl hm), hbe, h.ge⟩, hO, fun b eb => hk.inX b (by rw [← e]; exact eb)⟩
  · have hb3 := (hO.lo e).2
    refine ⟨b2 :: X, ⟨h.st.move hgs h1 h2 h3 h4 (fun b hm => List.mem_cons_of_mem _ hm) (fun b hm => ?_) (fun b hm => ?_), hbe, fun b hm => ?_⟩, hO, fun b eb => ?_⟩
    · rcases List.mem_cons.1 hm with rfl | hm
      · exact hb3
      · have := hlt b hm; omega
    · rcases List.mem_cons.1 hm with rfl | hm
      · exact .inr hb2
      · exact .inl hm
    · rcases List.mem_cons.1 hm with rfl | hm
      · exact Nat.le_trans h.be.size hb2
      · exact h.ge b hm
    · rw [e] at eb
      injection eb with eb
      subst eb
      refine ⟨by simp, fun e => ?_, fun e => ?_, fun e => ?_⟩
      · have := hlt _ h.st.inP; omega
      · have := hlt _ h.st.inM; omega
      · have := hlt _ (h.st.inK _ e); omega
/-- An install beside keys. -/
theorem keys_install {m : Int} {l : List Pair} {A : Option Addr} {n c : Nat} (h : My wx W pb mb kv X S) (hk : KeyRow W base vk ks X pb mb kv) (hl : Sl tPair W (· ∉ X) (.slice A n c) l) (hs : Short l) (hm1 : -9223372036854775808 ≤ m) (hm2 : m ≤ 9223372036854775807) (hle : S.ents.length + l.length ≤ 100000) (hla : S.last < 1000000) :
    Calls Try.prog 13 #[.pointer (some ⟨pb, 0, none⟩), .int .i64 m, .slice A n c] W fun e w' => e = .returned (.int .i64 (inst S m l).1) ∧ ∃ kv' X', My wx w' pb mb kv' X' (inst S m l).2 ∧ KeyRow w' base vk ks X' pb mb kv' ∧ W.heap.size ≤ w'.heap.size ∧ ∀ b, b < W.heap.size → b ∉ X → w'.heap[b]? = W.heap[b]? :=
  (install_calls pb mb kv X S m l A n c W h.st (hl.mono fun b hb => ⟨fun e => hb (by rw [e]; exact h.st.inP), fun e => hb (by rw [e]; exact h.st.inM), fun e => hb (h.st.inK b e)⟩) hs hm1 hm2 hle hla).mono fun e w' ⟨e1, kv', X', h1, h2, h3, h4⟩ =>
    ⟨e1, kv', X', ⟨h1, h.be.trans (h2.toBelow h.be.size (h.ge _ h.st.inP) (h.ge _ h.st.inM) fun b e => h.ge b (h.st.inK b e)), fun b hb => by
      rcases h4.1 b hb with h5 | h5
      · exact h.ge b h5
      · have := h.be.size; omega⟩, ⟨own_same hk.own fun b e => h2.block b (hk.own.lo e).2 (hk.inX b e).2.1 (hk.inX b e).2.2.1 (hk.inX b e).2.2.2, fun b e => ⟨h4.2 b (hk.inX b e).1, (hk.inX b e).2.1, (hk.inX b e).2.2.1, fun e' => by
        rcases h3 with h3 | h3
        · rw [h3] at e'; exact (hk.inX b e).2.2.2 e'
        · have := h3 b e'; have := (hk.own.lo e).2; omega⟩⟩, h2.size, fun b hb hn => h2.block b hb (fun e => hn (by rw [e]; exact h.st.inP)) (fun e => hn (by rw [e]; exact h.st.inM)) (fun e => hn (h.st.inK b e))⟩
end
end Go.Proofs.Ytnleldogmogkgaa
