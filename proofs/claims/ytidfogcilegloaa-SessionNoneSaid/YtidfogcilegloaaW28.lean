import Derived.Test.YtidfogcilegloaaW27
/-! Was a key of a range written behind a snapshot? -/
namespace Go.Proofs.Ytidfogcilegloaa
open Go.RowKit Go.Op Go.Shelf
attribute [local go_sem] Oper.semAt_some

theorem enters56 (args : Array Value) (w : World) : (callFunc 62 args).run Try.prog w = .ok (.enter 62 args) w := enters_of Try.func62 (by kernel_rfl) rfl args w
/-- What an iterator reads, of a store. -/
theorem Stm.btw {w W : World} {pb mb : Nat} {kv : Value} {X : List Nat} {S : Sto} {x y : ByteArray} {r bs : Nat} {V : List (ByteArray × Value)} (h : Stm w pb mb kv X S) (hV : Mp KS w mb V) (hB : Below w.heap.size w W) (hr : w.heap.size ≤ r) (hr1 : r < bs) (hbs : W.heap.size = bs + 3)
    (c1 : W.cell? ⟨bs, 0, none⟩ = some (.pointer (some ⟨pb, 0, none⟩))) (c2 : W.cell? ⟨bs + 1, 0, none⟩ = some (.string x)) (c3 : W.cell? ⟨bs + 2, 0, none⟩ = some (.string y)) :
    Btw W.heap.size (· ≠ r) W pb mb bs (bs + 1) (bs + 2) kv x y (S.ents.map (·.key)) V S.last S.floor := by
  have hlt := h.lt
  refine ⟨c1, c2, c3, h.blk.below hB (hlt _ h.inP), ?_, hV.same (hB.block _ (hlt _ h.inM)), fun b hb => ?_⟩
  · exact (h.below hB).keys
  · rcases hb with rfl | rfl | rfl | rfl | rfl | hb
    · omega
    · omega
    · omega
    · have := hlt _ h.inP; exact ⟨by omega, by omega⟩
    · have := hlt _ h.inM; exact ⟨by omega, by omega⟩
    · have := hlt _ (h.inK b hb); exact ⟨by omega, by omega⟩
/-- A chain that is told, in a later world. -/
theorem chain_at {w W : World} {mb : Nat} {X : List Nat} {S : Sto} {V : List (ByteArray × Value)} {z r : Nat} {w5 : World} (hok : S.Ok) (hla : S.last ≤ 1000000) (hV : Mp KS w mb V) (hC : Ch w X V S.ents) (hB : Below w.heap.size w w5) (hr : w.heap.size ≤ r) (hz : w.heap.size ≤ z) (hk : Kept (· ≠ r) z w5 W) (k : ByteArray) :
    ∃ A n c, valOf V k = .slice A n c ∧ Sl tVer W (fun _ => True) (.slice A n c) (chainOf S.ents k) ∧ n ≤ 1000000 := by
  obtain ⟨A, n, c, h1, h2⟩ := look_at hok.rising hV hC k
  have h3 := chain_len (by have := hok.fl; have := hok.le; omega) hla hok.chains k
  have hn := h2.length.1
  refine ⟨A, n, c, h1, (h2.inb.step fun b hb => ?_).mono fun _ _ => trivial, by omega⟩
  exact (hk.2 b (by omega) (by omega)).trans (hB.block b hb.2)
theorem sel_size {ks : List ByteArray} {V : List (ByteArray × Value)} {x y : ByteArray} {p : ByteArray × Value} (h : p ∈ selV ks V x y) : p.1 ∈ ks ∧ p.2 = valOf V p.1 := by
  unfold selV keysIn at h
  obtain ⟨k, hk, rfl⟩ := List.mem_map.1 h
  exact ⟨List.mem_of_mem_drop ((List.takeWhile_sublist _).subset hk), rfl⟩
theorem pre_mem {α : Type} {S pre : List α} {x : α} (h : pre ++ [x] <+: S) : x ∈ S := h.subset (by simp)

theorem kept_set {r z : Nat} (W : World) (v : Value) : Kept (· ≠ r) z W (W.setCell ⟨r, 0, none⟩ v) := ⟨by simp, fun b _ hb => Below.heap_setCell _ _ _ _ hb⟩

end Go.Proofs.Ytidfogcilegloaa
