import Derived.Test.YtnleldogmogkgaaW20
import Derived.Test.YtnleldogmogkgaaW17
import Derived.Test.YtnleldogmogkgaaW9
/-! The document's store in memory; what only reads it. -/
namespace Go.Proofs.Ytnleldogmogkgaa
open Go.RowKit Go.Op

def tKey : Ty Ent := (Ty.str.pair tVer.slice).iso fun e => (e.key, e.c)
section
variable {w : World} {ok : Nat → Prop} {A : Option Addr} {n cap : Nat}
theorem key_form {e : Ent} {cs : List Value} (h : tKey.K w ok e cs) : ∃ P m c, cs = [.string e.key, .slice P m c] ∧ Sl tVer w ok (.slice P m c) e.c := by
  obtain ⟨_, _, rfl, h1, ⟨v, rfl, h4⟩⟩ := h
  obtain ⟨P, cp, rfl, -⟩ := h4.form
  exact ⟨P, _, cp, by rw [show _ = _ from h1]; rfl, h4⟩
theorem key_mk {e : Ent} {P : Option Addr} {m c : Nat} (h : Sl tVer w ok (.slice P m c) e.c) : tKey.K w ok e [.string e.key, .slice P m c] := ⟨[_], [_], rfl, rfl, _, rfl, h⟩
theorem sl_key {l : List Ent} (h : Sl tKey w ok (.slice A n cap) l) {i : Nat} {e : Ent} (hi : l[i]? = some e) :
    ∃ b off P m c, A = some ⟨b, off, none⟩ ∧ b < w.heap.size ∧ w.cell? ⟨b, off + i * 2, none⟩ = some (.string e.key) ∧ w.cell? ⟨b, off + i * 2 + 1, none⟩ = some (.slice P m c) ∧ Sl tVer w ok (.slice P m c) e.c := by
  obtain ⟨b, off, c, e1, hb, hk, hc⟩ := h.at (by decide) hi
  obtain ⟨P, m, cp, rfl, hs⟩ := key_form hk
  exact ⟨b, off, P, m, cp, e1, World.block_lt_of_cell? w _ (hc 0 _ rfl), hc 0 _ rfl, hc 1 _ rfl, hs⟩
end

/-- The document's store: its pointer's block, its row of keys; X: the blocks that the call may write. -/
structure Rst (w : World) (rb : Nat) (v : Value) (X : List Nat) (S : Sto) : Prop where
  blk : Blk w rb #[v, .int .i64 S.last, .int .i64 S.floor] 53
  row : Own tKey w 0 88 (· ∉ X) v S.ents
  ok : S.Ok
  few : S.ents.length ≤ 100000
  last : S.last ≤ 1000000
  inP : rb ∈ X
  inK : ∀ b, v.ownBlock = some b → b ∈ X
  lt : ∀ b ∈ X, b < w.heap.size
  nP : v.ownBlock ≠ some rb
section
variable {w w' : World} {rb : Nat} {v : Value} {X X' : List Nat} {S : Sto}
/-- What turns none of its blocks keeps it. -/
theorem Rst.move (h : Rst w rb v X S) (_hs : w.heap.size ≤ w'.heap.size) (h1 : w'.heap[rb]? = w.heap[rb]?) (h3 : ∀ b, v.ownBlock = some b → w'.heap[b]? = w.heap[b]?)
    (h4 : ∀ b, b < w.heap.size → b ∉ X → w'.heap[b]? = w.heap[b]?) (h5 : ∀ b ∈ X, b ∈ X') (h6 : ∀ b ∈ X', b < w'.heap.size) (h7 : ∀ b ∈ X', b ∈ X ∨ w.heap.size ≤ b) : Rst w' rb v X' S := by
  refine ⟨h1.trans h.blk, ?_, h.ok, h.few, h.last, h5 _ h.inP, fun b e => h5 _ (h.inK b e), h6, h.nP⟩
  obtain ⟨cs, ⟨e1, hr⟩, hc⟩ := h.row
  refine ⟨cs, ⟨e1, ?_⟩, (hc.inb.step fun b hb => h4 b hb.2 hb.1.1).mono fun b hb => ⟨fun hm => ?_, hb.1.2⟩⟩
  · rcases hr with hr | ⟨g, cap, rest, e2, hb, hB, r⟩
    · exact .inl hr
    · subst e2
      exact .inr ⟨g, cap, rest, rfl, hb, (h3 g rfl).trans hB, r⟩
  · rcases h7 b hm with h8 | h8
    · exact hb.1.1 h8
    · have := hb.2; omega
theorem Rst.below (h : Rst w rb v X S) (hb : Below w.heap.size w w') : Rst w' rb v X S :=
  h.move hb.size (hb.block _ (h.lt _ h.inP)) (fun b e => hb.block _ (h.lt _ (h.inK b e))) (fun b hl _ => hb.block b hl) (fun _ hm => hm) (fun b hm => Nat.lt_of_lt_of_le (h.lt b hm) hb.size) (fun _ hm => .inl hm)
theorem Rst.cells (h : Rst w rb v X S) : w.cell? ⟨rb, 0, none⟩ = some v ∧ w.cell? ⟨rb, 1, none⟩ = some (.int .i64 S.last) ∧ w.cell? ⟨rb, 2, none⟩ = some (.int .i64 S.floor) := ⟨h.blk.cell 0, h.blk.cell 1, h.blk.cell 2⟩
/-- Its keys, as a slice. -/
theorem Rst.sl (h : Rst w rb v X S) : ∃ A c, v = .slice A S.ents.length c ∧ Sl tKey w (fun _ => True) (.slice A S.ents.length c) S.ents := by
  have hs := h.row.sl
  obtain ⟨A, c, e, -⟩ := hs.form
  exact ⟨A, c, e, by rw [← e]; exact hs.mono fun _ _ => trivial⟩
end
theorem Sto.Ok.len {S : Sto} (h : S.Ok) (hla : S.last ≤ 1000000) {e : Ent} (he : e ∈ S.ents) : e.c.length ≤ 1000000 := by
  have := (h.chains e he).len (by have := h.fl; have := h.le; omega)
  omega

theorem rmay_calls (rb : Nat) (v : Value) (X : List Nat) (S : Sto) (n : Int) (w : World) (h : Rst w rb v X S) :
    Calls Try.prog 62 #[.pointer (some ⟨rb, 0, none⟩), .int .i64 n] w fun e w' => e = .returned (.int .i64 (may S n)) ∧ w = w' := by
  obtain ⟨-, c1, c2⟩ := h.cells
  clear h
  by_cases h1 : n < S.floor
  · go_enter Try.func62, Try.ntmps62
    go_wp2
    go_ret
    exact ⟨ret_int (by unfold may; rw [if_pos (by omega)]), rfl⟩
  · by_cases h2 : S.last < n
    · go_enter Try.func62, Try.ntmps62
      go_wp2
      go_ret
      exact ⟨ret_int (by unfold may; rw [if_neg (by omega), if_pos (by omega)]), rfl⟩
    · go_enter Try.func62, Try.ntmps62
      go_wp2
      go_ret
      exact ⟨ret_int (by unfold may; rw [if_neg (by omega), if_neg (by omega)]), rfl⟩

theorem vers_le {S : Sto} (h : S.Ok) (hla : S.last ≤ 1000000) : ∀ {l : List Ent} (_ : ∀ e ∈ l, e ∈ S.ents), vers l ≤ l.length * 1000000
  | [], _ => by simp [vers]
  | e :: l, hm => by
    have h1 := h.len hla (hm e (by simp))
    have h2 := vers_le h hla (l := l) fun x hx => hm x (by simp [hx])
    simp only [vers, List.map_cons, List.sum_cons, List.length_cons] at h2 ⊢
    omega
theorem vers_take {E : List Ent} {j : Nat} {e : Ent} (he : E[j]? = some e) : vers (E.take (j + 1)) = vers (E.take j) + e.c.length := by
  rw [List.take_add_one, he]
  simp [vers]

set_option maxHeartbeats 2000000 in
theorem rvers_calls (rb : Nat) (v : Value) (X : List Nat) (S : Sto) (w : World) (h : Rst w rb v X S) :
    Calls Try.prog 26 #[.pointer (some ⟨rb, 0, none⟩)] w fun e w' => e = .returned (.int .i64 (vers S.ents : Nat)) ∧ Below w.heap.size w w' := by
  obtain ⟨c0, -, -⟩ := h.cells
  obtain ⟨A, c, rfl, hs⟩ := h.sl
  obtain ⟨hln, hcap, hcm⟩ := hs.length
  obtain ⟨n, hn⟩ : ∃ n, S.ents.length = n := ⟨_, rfl⟩
  have hn0 := h.few
  rw [hn] at hs c0 hcap hn0
  have HN := Lib.hid hn
  have HS := Lib.hid hs
  have HOK := Lib.hid h.ok
  have HLA := Lib.hid h.last
  have HX0 := Lib.hid (Below.refl w.heap.size w)
  clear h hs hn hln
  go_enter Try.func26, Try.ntmps26
  go_wp2
  go_loopw [3, 11] (fun vn i wr => ∃ j : Nat, i = .int .i64 j ∧ j ≤ n ∧ vn = .int .i64 (vers (S.ents.take j) : Nat) ∧ Hid (Below w.heap.size w wr)) (fun _ i _ => n - (intOf i).toNat)
  case atStart => exact ⟨0, rfl, by omega, rfl, HX0⟩
  case round =>
    obtain ⟨j, rfl, hj, rfl, hB⟩ := hrel
    clear HX0
    by_cases hlt : j < n
    · obtain ⟨e, he⟩ := some_at (show j < S.ents.length by rw [HN.out]; exact hlt)
      obtain ⟨b, off, P, m, cp, rfl, hbl, x0, x1, hP⟩ := sl_key (HS.out.below hB.out) he
      have hm1 := hP.length.1
      have hm2 := HOK.out.len HLA.out (List.mem_of_getElem? he)
      have hv := vers_le HOK.out HLA.out (l := S.ents.take (j + 1)) (fun x hx => List.mem_of_mem_take hx)
      have hl1 := List.length_take_le (j + 1) S.ents
      have hvt := vers_take he
      rw [hm1] at hvt hm2
      obtain ⟨a, ha⟩ : ∃ a, vers (S.ents.take j) = a := ⟨_, rfl⟩
      rw [ha] at hvt ⊢
      rw [hvt] at hv
      have hv2 : a + m ≤ 200000000000 := by omega
      have HT := Lib.hid hvt
      have HB2 := Lib.hid (hB.out.alloc hB.out.size (.cells #[.string e.key, .slice P m cp] 88))
      clear he hP hv hl1 hvt ha hm1
      go_wp2
      go_roundw
      case rel => exact ⟨j + 1, by go_num, by omega, by rw [HT.out]; go_num, HB2⟩
      case measure => simp [intOf]; omega
    · obtain rfl : j = n := by omega
      have HV : Hid (vers (S.ents.take j) = vers S.ents) := by show _ = _; rw [List.take_of_length_le (by rw [HN.out]; exact Nat.le_refl _)]
      rw [HV.out]
      go_wp2
      go_ret
      exact ⟨rfl, hB.out⟩
end Go.Proofs.Ytnleldogmogkgaa
