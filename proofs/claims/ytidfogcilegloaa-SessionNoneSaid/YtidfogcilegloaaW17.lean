import Derived.Test.YtidfogcilegloaaW16
/-! One store in a call; the examples' walk. -/
namespace Go.Proofs.Ytidfogcilegloaa
open Go.RowKit Go.Op

/-- A store that the call made. -/
structure My (w W : World) (pb mb : Nat) (kv : Value) (X : List Nat) (S : Sto) : Prop where
  st : Stm W pb mb kv X S
  be : Below w.heap.size w W
  ge : ∀ b ∈ X, w.heap.size ≤ b
section
variable {w W W' : World} {pb mb : Nat} {kv : Value} {X : List Nat} {S : Sto}
theorem My.below (h : My w W pb mb kv X S) (hb : Below W.heap.size W W') : My w W' pb mb kv X S := ⟨h.st.below hb, h.be.trans (hb.mono h.be.size), h.ge⟩
theorem My.arg {α : Type} {t : Ty α} {ok : Nat → Prop} {v : Value} {l : List α} (h : My w W pb mb kv X S) (hs : Sl t w ok v l) : Sl t W (· ∉ X) v l :=
  (hs.inb.step fun b hb => h.be.block b hb.2).mono fun b hb hm => by have := h.ge b hm; have := hb.2; omega
theorem My.install {m : Int} {l : List Pair} {A : Option Addr} {n c : Nat} (h : My w W pb mb kv X S) (hl : Sl tPair W (· ∉ X) (.slice A n c) l) (hs : Short l) (hm1 : -9223372036854775808 ≤ m) (hm2 : m ≤ 9223372036854775807) (hle : S.ents.length + l.length ≤ 100000) (hla : S.last < 1000000) :
    Calls Try.prog 20 #[.pointer (some ⟨pb, 0, none⟩), .int .i64 m, .slice A n c] W fun e w' => e = .returned (.int .i64 (inst S m l).1) ∧ ∃ kv' X', My w w' pb mb kv' X' (inst S m l).2 ∧ Chg pb mb kv W w' ∧ Xin W X X' :=
  (install_calls pb mb kv X S m l A n c W h.st (hl.mono fun b hb => ⟨fun e => hb (by rw [e]; exact h.st.inP), fun e => hb (by rw [e]; exact h.st.inM), fun e => hb (h.st.inK b e)⟩) hs hm1 hm2 hle hla).mono fun e w' ⟨e1, kv', X', h1, h2, h3, h4⟩ =>
    ⟨e1, kv', X', ⟨h1, h.be.trans (h2.toBelow h.be.size (h.ge _ h.st.inP) (h.ge _ h.st.inM) fun b e => h.ge b (h.st.inK b e)), fun b hb => by
      rcases h4.1 b hb with h5 | h5
      · exact h.ge b h5
      · have := h.be.size; omega⟩, h2, h4⟩
theorem My.keep {g : Nat} {cs : Array Value} {e : TypeId} (h : My w W pb mb kv X S) (hc : Chg pb mb kv W W') (hB : Blk W g cs e) (hg : g ∉ X) : Blk W' g cs e :=
  (hc.block g hB.lt (fun e => hg (by rw [e]; exact h.st.inP)) (fun e => hg (by rw [e]; exact h.st.inM)) (fun e => hg (h.st.inK g e))).trans hB
theorem Xin.out {X' : List Nat} {g : Nat} (h : Xin W X X') (hg : g ∉ X) (hl : g < W.heap.size) : g ∉ X' := fun hm => by
  rcases h.1 g hm with h | h
  · exact hg h
  · omega
end
theorem my_new (w0 w : World) (h : Below w0.heap.size w0 w) : Calls Try.prog 6 #[] w fun e w' => e = .returned (.pointer (some ⟨w.heap.size + 1, 0, none⟩)) ∧ My w0 w' (w.heap.size + 1) w.heap.size (.slice none 0 0) [w.heap.size, w.heap.size + 1] Sto.new :=
  (snew_calls w).mono fun e w' ⟨e1, h1, h2⟩ => ⟨e1, h1, h.trans (h2.mono h.size), fun b hb => by have := h.size; simp at hb; omega⟩

end Go.Proofs.Ytidfogcilegloaa
